/- Texts of this proof, laid into one: KcI, KcJ, KdA, KdB, KdC. -/
import Derived.Test.YtlhhiiemojhjdaaDoorMs10
set_option linter.unusedVariables false
set_option linter.unusedSimpArgs false
namespace Go.Proofs.YtlhhiiemojhjdaaDoor
open Go Go.RowKit
def TwinP (j : JsonD) (w : World) (e : Ending) (w' : World) : Prop := ∃ un uk, e = .returned (.agg (cellJ j un uk).toArray) ∧ JO w' j w.heap.size w'.heap.size un uk ∧ Q w w'
theorem wf_names {k : Int} {t : Txt} {ns : List Txt} {ks : List JsonD} {d : Nat} (h : wfJ (.mk k t ns ks) d = true) : ns.length ≤ ks.length := by
  by_cases h0 : ns = []
  · rw [h0]; simp
  · rw [wfJ] at h
    by_cases h1 : k = 1 ∨ k = 2 ∨ k = 3
    · rw [if_pos h1] at h; simp [h0] at h
    · rw [if_neg h1] at h
      by_cases h4 : k = 4
      · rw [if_pos h4] at h; simp [h0] at h
      · rw [if_neg h4] at h
        by_cases h5 : k = 5
        · rw [if_pos h5] at h; simp [h0] at h
        · rw [if_neg h5] at h
          by_cases h6 : k = 6
          · rw [if_pos h6] at h; simp [h0] at h
          · rw [if_neg h6] at h
            by_cases h7 : k = 7
            · rw [if_pos h7] at h
              simp only [Bool.and_eq_true, decide_eq_true_eq] at h
              omega
            · rw [if_neg h7] at h; cases h
theorem wf_kid {k : Int} {t : Txt} {ns : List Txt} {ks : List JsonD} {d : Nat} (h : wfJ (.mk k t ns ks) d = true) {i : Nat} (hi : i < ks.length) : ∃ d', wfJ (gK ks i) d' = true := by
  have hne : ks ≠ [] := fun e => by rw [e] at hi; cases hi
  have key : wfKs ks (d - 1) = true := by
    rw [wfJ] at h
    by_cases h1 : k = 1 ∨ k = 2 ∨ k = 3
    · rw [if_pos h1] at h; simp [hne] at h
    · rw [if_neg h1] at h
      by_cases h4 : k = 4
      · rw [if_pos h4] at h; simp [hne] at h
      · rw [if_neg h4] at h
        by_cases h5 : k = 5
        · rw [if_pos h5] at h; simp [hne] at h
        · rw [if_neg h5] at h
          by_cases h6 : k = 6
          · rw [if_pos h6] at h; simp only [Bool.and_eq_true] at h; exact h.2
          · rw [if_neg h6] at h
            by_cases h7 : k = 7
            · rw [if_pos h7] at h; simp only [Bool.and_eq_true] at h; exact h.2
            · rw [if_neg h7] at h; cases h
  rw [gK_get ks i hi]
  exact ⟨_, wfKs_mem key _ (List.getElem_mem hi)⟩
theorem cnt_len (ks : List JsonD) : ks.length ≤ cntKs ks := by
  induction ks with
  | nil => simp
  | cons j r ih => rw [cntKs]; have := cnt_pos j; simp; omega
def SCp (B Kb : Nat) (vk : Value) (cs : List Value) (W : World) : Prop := W.cell? ⟨B, 3, none⟩ = some vk ∧ W.heap[Kb]? = some (.cells cs.toArray 40 (0, 0))
def TwinKids (ks : List JsonD) : Prop := ∀ i, i < ks.length → ∀ W vn vk, JV W (gK ks i) vn vk → Calls Tryd.prog 51 #[.agg (cellJ (gK ks i) vn vk).toArray] W (TwinP (gK ks i) W)
structure TwB (k : Int) (t : Txt) (ns : List Txt) (ks : List JsonD) (w : World) (B : Nat) (un uk : Value) (cells : List Value) (W : World) : Prop where
  q : Q w W
  sz : w.heap.size = B
  box : W.heap[B]? = some (.cells (cellJ (.mk k t ns ks) un uk).toArray 40 (0, 0))
  res : W.heap[B + 1]? = some (.cells zeroC.toArray 40 (0, 0))
  nrow : W.ownsRow (B + 2) 9 1 un ns.length (ns.map strV)
  krow : W.ownsRow (B + 2) 40 4 uk ks.length cells
theorem two_clones {k : Int} {t : Txt} {ns : List Txt} {ks : List JsonD} {w W2 W3 W4 : World} {B : Nat} {v1 v2 un uk : Value} {cells : List Value} (hB : w.heap.size = B) (e1 : W2.heap[B]? = some (.cells (cellJ (.mk k t ns ks) v1 v2).toArray 40 (0, 0)))
    (e2 : W2.heap[B + 1]? = some (.cells zeroC.toArray 40 (0, 0))) (q2 : Q w W2) (s2 : W2.heap.size = B + 2) (q3 : Q W2 W3) (hn : W3.ownsRow W2.heap.size 9 1 un ns.length (ns.map strV))
    (q4 : Q (W3.setCell ⟨B, 2, none⟩ un) W4) (hk : W4.ownsRow (W3.setCell ⟨B, 2, none⟩ un).heap.size 40 4 uk ks.length cells) : TwB k t ns ks w B un uk cells (W4.setCell ⟨B, 3, none⟩ uk) := by
  have a1 := q3.block e1
  have a2 : (W3.setCell ⟨B, 2, none⟩ un).heap[B]? = some (.cells (cellJ (.mk k t ns ks) un v2).toArray 40 (0, 0)) := heap_setCell_any W3 B 2 _ _ _ un a1
  have a3 := q4.block a2
  have a4 : (W4.setCell ⟨B, 3, none⟩ uk).heap[B]? = some (.cells (cellJ (.mk k t ns ks) un uk).toArray 40 (0, 0)) := heap_setCell_any W4 B 3 _ _ _ uk a3
  have b2 : (W3.setCell ⟨B, 2, none⟩ un).heap[B + 1]? = some (.cells zeroC.toArray 40 (0, 0)) := by rw [heap_setCell_other _ ⟨B, 2, none⟩ (B + 1) un (by simp)]; exact q3.block e2
  have s3 := q3.size
  have sx : (W3.setCell ⟨B, 2, none⟩ un).heap.size = W3.heap.size := by simp
  have s4 := q4.size
  have f2 : ∀ b, b ≠ B → (W3.setCell ⟨B, 2, none⟩ un).heap[b]? = W3.heap[b]? := fun b h => heap_setCell_other _ ⟨B, 2, none⟩ b un h
  have f4 : ∀ b, b ≠ B → (W4.setCell ⟨B, 3, none⟩ uk).heap[b]? = W4.heap[b]? := fun b h => heap_setCell_other _ ⟨B, 3, none⟩ b uk h
  refine ⟨?_, hB, a4, ?_, ?_, ?_⟩
  · have g : GX [B] w (W4.setCell ⟨B, 3, none⟩ uk) := (((GX.q (q2.trans q3)).set (by simp) 2 un).trans (GX.q q4)).set (by simp) 3 uk
    exact GX.toQ g (Q.refl w) (fun b hb => by simp at hb; omega)
  · rw [f4 (B + 1) (by omega)]; exact q4.block b2
  · have hnb : ∀ b, un.ownBlock = some b → B + 2 ≤ b ∧ b < W3.heap.size := fun b e => by have := ownsRow_base hn e; omega
    rw [s2] at hn
    exact ownsRow_frame (ownsRow_frame (ownsRow_frame hn (fun b e _ => f2 b (by have := hnb b e; omega))) (fun b e h1 => Below.block q4 b h1)) (fun b e _ => f4 b (by have := hnb b e; omega))
  · have hkb : ∀ b, uk.ownBlock = some b → B + 2 ≤ b := fun b e => by have := ownsRow_base hk e; omega
    exact ownsRow_low (ownsRow_frame hk (fun b e _ => f4 b (by have := hkb b e; omega))) (by omega)
theorem TwB.done {k : Int} {t : Txt} {ns : List Txt} {w W : World} {B : Nat} {un uk : Value} {cells : List Value} (h : TwB k t ns [] w B un uk cells W) : JO W (.mk k t ns []) (B + 2) W.heap.size un uk := by
  have hc : cells = [] := List.eq_nil_of_length_eq_zero (by have := h.krow.1; simpa using this)
  subst hc
  have hl := lt_of_heap h.res
  rw [JO]
  exact ⟨by omega, h.nrow, fun b hb => (ownsRow_base h.nrow hb).2, fun b hb => (ownsRow_base h.krow hb).2, [], h.krow, by rw [JOK]⟩
theorem TwB.start {k : Int} {t : Txt} {ns : List Txt} {ks : List JsonD} {w W : World} {B : Nat} {un uk : Value} {cells : List Value} (h : TwB k t ns ks w B un uk cells W) (hne : 0 < ks.length) (hjk : JK w ks cells) : ∃ g cap, uk = .slice (some ⟨g, 0, none⟩) ks.length cap ∧ TwS k t ns ks w B un g cap 0 [] cells W := by
  have hl := h.krow.1
  rcases h.krow.2 with ⟨_, h0⟩ | ⟨g, cap, cur, e, hb, h1, h2, h3, h4, h5⟩
  · omega
  · subst e
    refine ⟨g, cap, rfl, h.q, h.sz, h.box, h.res, h.nrow, hb, h2, h3, ⟨cur, h1, h4, ?_⟩, by simp, by rw [hl]; simp, by rw [List.take_zero, JOK], by rw [List.drop_zero]; exact hjk⟩
    rw [List.nil_append]; exact h5
theorem TwS.at {k : Int} {t : Txt} {ns : List Txt} {ks : List JsonD} {w : World} {B : Nat} {un : Value} {g cap i : Nat} {dn rest : List Value} {W : World} (h : TwS k t ns ks w B un g cap i dn rest W) (hi : i < ks.length) :
    ∃ vn vk rest2, rest = cellJ (gK ks i) vn vk ++ rest2 ∧ JK w (ks.drop (i + 1)) rest2 ∧ JV w (gK ks i) vn vk ∧ W.rangeAt g (i * 4) (cellJ (gK ks i) vn vk) ∧ W.there g (i * 4) 4 := by
  have hjk := h.jk
  rw [gK_dropJ ks i hi, JK] at hjk
  obtain ⟨vn, vk, rest2, e, h1, h2⟩ := hjk
  obtain ⟨cur, c1, c2, c3⟩ := h.row
  have hcap := h.cap1
  have hv2 : (cellJ (gK ks i) vn vk).length = 4 := jsonC_len _ _ _ _
  refine ⟨vn, vk, rest2, e, h2, h1, ?_, there_row c1 (by omega)⟩
  intro j u hu
  have hj : j < 4 := by have := (List.getElem?_eq_some_iff.1 hu).1; rw [hv2] at this; exact this
  rw [cell_of_row _ _ _ _ _ _ c1]
  have c4 := congrArg (fun l : List Value => l[i * 4 + j]?) c3
  simp only [e] at c4
  rw [List.getElem?_take, if_pos (by omega), List.getElem?_append_right (by rw [h.dlen]; omega), h.dlen, Nat.add_sub_cancel_left, List.getElem?_append_left (by rw [hv2]; exact hj), hu] at c4
  simpa using c4
def TwI (k : Int) (t : Txt) (ns : List Txt) (ks : List JsonD) (w : World) (B : Nat) (un uk : Value) (i : Nat) (W : World) : Prop := (ks = [] ∧ ∃ cells, TwB k t ns ks w B un uk cells W) ∨ ∃ g cap dn rest, uk = .slice (some ⟨g, 0, none⟩) ks.length cap ∧ TwS k t ns ks w B un g cap i dn rest W
theorem TwI.start {k : Int} {t : Txt} {ns : List Txt} {ks : List JsonD} {w W : World} {B : Nat} {un uk : Value} {cells : List Value} (h : TwB k t ns ks w B un uk cells W) (hjk : JK w ks cells) : TwI k t ns ks w B un uk 0 W := by
  by_cases h0 : ks = []
  · exact .inl ⟨h0, _, h⟩
  · obtain ⟨g, cap, e, h1⟩ := h.start (List.length_pos_iff.2 h0) hjk
    exact .inr ⟨g, cap, _, _, e, h1⟩
structure TwF (k : Int) (t : Txt) (ns : List Txt) (ks : List JsonD) (w : World) (B : Nat) (un uk : Value) (W : World) : Prop where
  q : Q w W
  sz : w.heap.size = B
  box : W.heap[B]? = some (.cells (cellJ (.mk k t ns ks) un uk).toArray 40 (0, 0))
  res : W.heap[B + 1]? = some (.cells zeroC.toArray 40 (0, 0))
  jo : JO W (.mk k t ns ks) (B + 2) W.heap.size un uk
theorem TwI.fin {k : Int} {t : Txt} {ns : List Txt} {ks : List JsonD} {w W : World} {B : Nat} {un uk : Value} (h : TwI k t ns ks w B un uk ks.length W) : TwF k t ns ks w B un uk W := by
  rcases h with ⟨h0, cells, h⟩ | ⟨g, cap, dn, rest, e, h⟩
  · subst h0
    exact ⟨h.q, h.sz, h.box, h.res, h.done⟩
  · subst e
    exact ⟨h.q, h.sz, h.box, h.res, h.done⟩
theorem TwI.go {k : Int} {t : Txt} {ns : List Txt} {ks : List JsonD} {w W : World} {B i : Nat} {un uk : Value} (h : TwI k t ns ks w B un uk i W) (hi : i < ks.length) : ∃ g cap dn rest, uk = .slice (some ⟨g, 0, none⟩) ks.length cap ∧ TwS k t ns ks w B un g cap i dn rest W := by
  rcases h with ⟨h0, _⟩ | h
  · rw [h0] at hi; cases hi
  · exact h
set_option maxRecDepth 100000 in
theorem twin_step (k : Int) (t : Txt) (ns : List Txt) (ks : List JsonD) (hns : ns.length ≤ 8000) (hks : ks.length ≤ 8000) (IH : TwinKids ks) (w : World) (vn vk : Value) (h : JV w (.mk k t ns ks) vn vk) :
    Calls Tryd.prog 51 #[.agg (cellJ (.mk k t ns ks) vn vk).toArray] w (TwinP (.mk k t ns ks) w) := by
  obtain ⟨A2, c2n, cells, e2, hjk, hcl, hnone, hcc⟩ := h.cells
  have hnv : NsV w vn ns := by rw [JV] at h; exact h.1
  have HCN := Lib.hid (fun W (hq : Q w W) => clone_names ns W vn (hnv.mono (fun _ _ => hq.cell)) (by omega))
  have HCK := Lib.hid (fun W (hq : Q w W) => clone_kids ks W A2 c2n cells (by omega) hcl hnone (fun ad e j u hu => hq.cell (hcc ad e j u hu)) hjk.one)
  have HJK := Lib.hid hjk
  have HCL := Lib.hid hcl
  have HIH := Lib.hid IH
  subst e2
  obtain ⟨A1, c1n, rfl, _⟩ := hnv.at
  clear h hnv hjk hcl hnone hcc IH
  go_enter Tryd.func51, Tryd.ntmps51
  go_upto_region 1 with (fail)
  have e1 := heap_alloc_new w (.cells (cellJ (.mk k t ns ks) (.slice A1 ns.length c1n) (.slice A2 ks.length c2n)).toArray 40)
  have q1 : Q w (w.alloc (.cells (cellJ (.mk k t ns ks) (.slice A1 ns.length c1n) (.slice A2 ks.length c2n)).toArray 40)) := (Q.refl w).alloc _
  have s1 : (w.alloc (.cells (cellJ (.mk k t ns ks) (.slice A1 ns.length c1n) (.slice A2 ks.length c2n)).toArray 40)).heap.size = w.heap.size + 1 := by simp
  obtain ⟨W1, hW1⟩ : ∃ W1, w.alloc (.cells (cellJ (.mk k t ns ks) (.slice A1 ns.length c1n) (.slice A2 ks.length c2n)).toArray 40) = W1 := ⟨_, rfl⟩
  rw [hW1] at e1 q1 s1
  rw [hW1]
  have e2 := heap_alloc_new W1 (.cells zeroC.toArray 40)
  have q2 : Q W1 (W1.alloc (.cells zeroC.toArray 40)) := (Q.refl W1).alloc _
  have s2 : (W1.alloc (.cells zeroC.toArray 40)).heap.size = w.heap.size + 2 := by simp [s1]
  rw [s1] at e2
  obtain ⟨W2, hW2⟩ : ∃ W2, W1.alloc (.cells zeroC.toArray 40) = W2 := ⟨_, rfl⟩
  rw [hW2] at e2 q2 s2
  have hW2' : W1.alloc (.cells #[.int .i64 0, .string ⟨#[]⟩, .slice none 0 0, .slice none 0 0] 40) = W2 := hW2
  rw [hW2']
  obtain ⟨B, hB⟩ : ∃ B, w.heap.size = B := ⟨_, rfl⟩
  have e1 := q2.block e1
  rw [hB] at e1 e2 s2
  rw [hB]
  have HB := Lib.hid hB
  have HE1 := Lib.hid e1
  have HE2 := Lib.hid e2
  have HQ2 := Lib.hid (q1.trans q2)
  have HS2 := Lib.hid s2
  clear e1 e2 q1 q2 s1 s2 hW1 hW2 hW2' hB
  have cn : W2.cell? ⟨B, 2, none⟩ = some (.slice A1 ns.length c1n) := by rw [cell_of_row _ _ _ _ _ _ HE1.out]; rfl
  go_wp2_with fail
  refine (HCN.out _ HQ2.out).mono ?_
  rintro e W3 ⟨un, rfl, hn3, hq3, A3, c3, rfl⟩
  have HN3 := Lib.hid hn3
  have HQ3 := Lib.hid hq3
  have HE13 := Lib.hid (hq3.block HE1.out)
  have HE23 := Lib.hid (hq3.block HE2.out)
  clear hn3 hq3 cn
  have cn : W3.cell? ⟨B, 2, none⟩ = some (.slice A1 ns.length c1n) := by rw [cell_of_row _ _ _ _ _ _ HE13.out]; rfl
  have fn := frozen_of_row W3 B 2 _ _ HE13.out
  have ck0 : W3.cell? ⟨B, 3, none⟩ = some (.slice A2 ks.length c2n) := by rw [cell_of_row _ _ _ _ _ _ HE13.out]; rfl
  go_upto_region 2 with (fail)
  have HCK3 := Lib.hid (HCK.out (W3.setCell ⟨B, 2, none⟩ (.slice A3 ns.length c3)) (by
    have g : GX [B] w (W3.setCell ⟨B, 2, none⟩ (.slice A3 ns.length c3)) := (GX.q (HQ2.out.trans HQ3.out)).set (by simp) 2 _
    exact GX.toQ g (Q.refl w) (fun b hb => by simp at hb; have := HB.out; omega)))
  have ck : (W3.setCell ⟨B, 2, none⟩ (.slice A3 ns.length c3)).cell? ⟨B, 3, none⟩ = some (.slice A2 ks.length c2n) :=
    (World.cell?_setCell_other _ _ _ _ (by simp)).trans ck0
  obtain ⟨X3, hX3⟩ : ∃ X3, W3.setCell ⟨B, 2, none⟩ (.slice A3 ns.length c3) = X3 := ⟨_, rfl⟩
  have HX3 := Lib.hid hX3
  rw [hX3] at HCK3 ck
  rw [hX3]
  clear hX3 cn fn ck0
  go_wp2_with fail
  refine HCK3.out.mono ?_
  rintro e W4 ⟨uk, rfl, hn4, hq4, A4, c4, rfl⟩
  have HT : Hid (TwB k t ns ks w B (.slice A3 ns.length c3) (.slice A4 ks.length c4) cells (W4.setCell ⟨B, 3, none⟩ (.slice A4 ks.length c4))) := Lib.hid (two_clones HB.out HE1.out HE2.out HQ2.out HS2.out HQ3.out HN3.out (by rw [HX3.out]; exact hq4) (by rw [HX3.out]; exact hn4))
  have hb4 : X3.heap[B]? = some (.cells (cellJ (.mk k t ns ks) (.slice A3 ns.length c3) (.slice A2 ks.length c2n)).toArray 40 (0, 0)) := by
    rw [← HX3.out]; exact heap_setCell_any W3 B 2 _ _ _ _ HE13.out
  have HB4 := Lib.hid (hq4.block hb4)
  have cn : W4.cell? ⟨B, 3, none⟩ = some (.slice A2 ks.length c2n) := by rw [cell_of_row _ _ _ _ _ _ HB4.out]; rfl
  have fn := frozen_of_row W4 B 3 _ _ HB4.out
  clear hn4 hq4 hb4 ck
  go_upto_region 3 with (fail)
  obtain ⟨X4, hX4⟩ : ∃ X4, W4.setCell ⟨B, 3, none⟩ (.slice A4 ks.length c4) = X4 := ⟨_, rfl⟩
  rw [hX4] at HT
  rw [hX4]
  clear hX4 cn fn
  have ck : X4.cell? ⟨B, 3, none⟩ = some (.slice A4 ks.length c4) := by rw [cell_of_row _ _ _ _ _ _ HT.out.box]; rfl
  have HI0 := Lib.hid (TwI.start HT.out HJK.out)
  obtain ⟨un, hun⟩ : ∃ v : Value, Value.slice A3 ns.length c3 = v := ⟨_, rfl⟩
  rw [hun] at HI0
  clear hun
  go_upto_region 4 with (fail)
  go_loopw [16] (fun i wx => ∃ n : Nat, n ≤ ks.length ∧ i = .int .i64 n ∧ Hid (TwI k t ns ks w B un (.slice A4 ks.length c4) n wx)) (fun i _ => ks.length - (intOf i).toNat)
  case atStart => exact ⟨0, by omega, rfl, HI0⟩
  case round =>
    obtain ⟨i, hil, rfl, HI⟩ := hrel
    rename World => wa
    by_cases hlt : i < ks.length
    · have hd : decide (i < ks.length) = true := by simpa using hlt
      obtain ⟨g, cap, dn, rest, e, hs⟩ := HI.out.go hlt
      injection e with e1 _ e2
      subst e1 e2
      obtain ⟨vn', vk', rest2, hr, hjk2, hjv, hrg, hth⟩ := hs.at hlt
      have HS := Lib.hid hs
      have HR := Lib.hid hr
      have HJ2 := Lib.hid hjk2
      have HJv := Lib.hid hjv
      have HRg := Lib.hid hrg
      have HTh := Lib.hid hth
      have HIn := Lib.hid (info_sz (gK ks i) vn' vk')
      clear hs hr hjk2 hjv hrg hth
      go_upto_region 5 with (fail)
      iterate 7 go_step
      refine wpList_load_mid rfl 40 (.tmp 19) rfl g (i * 4) rfl (cellJ (gK ks i) vn' vk') _ HRg.out Tryd.underlying40 rfl HIn.out ?_
      simp only [Act.put, List.setIfInBounds_toArray, List.set_cons_succ, List.set_cons_zero]
      have HOne := Lib.hid (cellJ_one (j := gK ks i) (jv_slices HJv.out).1 (jv_slices HJv.out).2)
      go_upto_region 6 with (refine wpList_store_row rfl 40 (.tmp 4) (.tmp 20) rfl wa.heap.size (cellJ (gK ks i) vn' vk').toArray rfl rfl 40 _ (heap_alloc_new wa _) HIn.out rfl HOne.out ?_)
      simp only [Act.put]
      have HB3 : Hid (((wa.alloc (.cells #[.int .i64 0, .string ⟨#[]⟩, .slice none 0 0, .slice none 0 0] 40)).setRow wa.heap.size (cellJ (gK ks i) vn' vk').toArray).heap[wa.heap.size]? = some (.cells (cellJ (gK ks i) vn' vk').toArray 40 (0, 0))) := Lib.hid (setRow_at (heap_alloc_new wa _) _)
      have HQ3 : Hid (Q wa ((wa.alloc (.cells #[.int .i64 0, .string ⟨#[]⟩, .slice none 0 0, .slice none 0 0] 40)).setRow wa.heap.size (cellJ (gK ks i) vn' vk').toArray)) := Lib.hid (((Q.refl wa).alloc _).setRow (Nat.le_refl _) _)
      obtain ⟨N3, hN3⟩ : ∃ N3, wa.heap.size = N3 := ⟨_, rfl⟩
      obtain ⟨W5, hW5⟩ : ∃ W5, (wa.alloc (.cells #[.int .i64 0, .string ⟨#[]⟩, .slice none 0 0, .slice none 0 0] 40)).setRow N3 (cellJ (gK ks i) vn' vk').toArray = W5 := ⟨_, rfl⟩
      rw [hN3, hW5] at HB3 HQ3
      rw [hN3, hW5]
      have HNg : Hid (g ≠ N3) := Lib.hid (by obtain ⟨cur, c1, _⟩ := HS.out.row; have := lt_of_heap c1; omega)
      clear hN3 hW5
      have HS6 : Hid (SCp B N3 (.slice (some ⟨g, 0, none⟩) ks.length c4) (cellJ (gK ks i) vn' vk') W5) := Lib.hid ⟨by rw [cell_of_row _ _ _ _ _ _ (HQ3.out.block HS.out.box)]; rfl, HB3.out⟩
      have k0 : ∀ m : SWA (SCp B N3 (.slice (some ⟨g, 0, none⟩) ks.length c4) (cellJ (gK ks i) vn' vk')), m.val.cell? ⟨B, 3, none⟩ = some (.slice (some ⟨g, 0, none⟩) ks.length c4) := fun m => m.property.1
      haveI hne : Nonempty (SWA (SCp B N3 (.slice (some ⟨g, 0, none⟩) ks.length c4) (cellJ (gK ks i) vn' vk'))) := ⟨⟨W5, HS6.out⟩⟩
      have HCl := Lib.hid (HIH.out i hlt W5.drew vn' vk' (HJv.out.q (HS.out.q.trans HQ3.out).drew))
      refine wp_plan_A (SCp B N3 (.slice (some ⟨g, 0, none⟩) ks.length c4) (cellJ (gK ks i) vn' vk')) HS6.out [([0, 1, 2, 3], [4]), ([5], [6])] (by kernel_rfl) (by kernel_rfl) (fun c a d v w h => by cases d <;> exact h) ?_
      simp only [wpPlan, wpListK, List.map_cons, List.map_nil, Array.getD_eq_getD_getElem?, List.getElem?_toArray, List.getElem?_cons_succ, List.getElem?_cons_zero, Option.getD_some, Act.put, List.setIfInBounds_toArray, List.set_cons_succ, List.set_cons_zero]
      iterate 3 (go_big_quiet_step (fail))
      refine wpQuiet_load_row rfl 40 (.tmp 4) rfl N3 rfl 40 (cellJ (gK ks i) vn' vk').toArray (0, 0) _ (fun W hW => by obtain ⟨m, rfl⟩ := hW; exact m.property.2) Tryd.underlying40 rfl HIn.out ?_
      simp only [Act.put, List.setIfInBounds_toArray, List.set_cons_succ, List.set_cons_zero]
      refine wpQuiet_nil ?_
      intro K hK
      have HQ5 := Lib.hid HQ3.out.drew
      clear HQ3 HB3
      go_wp2_with fail
      refine HCl.out.mono ?_
      rintro e W6 ⟨xn, xk, rfl, hj6, hq6⟩
      have hS6 : SCp B N3 (.slice (some ⟨g, 0, none⟩) ks.length c4) (cellJ (gK ks i) vn' vk') W6 := ⟨hq6.cell HS6.out.1, hq6.block HS6.out.2⟩
      have HX := Lib.hid (TwS.next HS.out hlt HR.out (HQ5.out.trans hq6) HQ5.out.size hj6 HJ2.out)
      have HLt6 : Hid (B < W6.heap.size) := Lib.hid (lt_of_heap ((HQ5.out.trans hq6).block HS.out.box))
      have HIn6 := Lib.hid (info_sz (gK ks i) xn xk)
      have HOne6 := Lib.hid (cellJ_one (j := gK ks i) (jo_form hj6).1 (jo_form hj6).2)
      have HTh6 : Hid (W6.there g (i * 4) (cellJ (gK ks i) xn xk).toArray.size) := Lib.hid (by
        obtain ⟨cur, c1, c2, _⟩ := HS.out.row
        have := HS.out.cap1
        exact there_row ((HQ5.out.trans hq6).block c1) (by show _ + (jsonC _ _ xn xk).toArray.size ≤ _; simp [jsonC]; omega))
      clear hq6 hj6 HQ5 hne
      go_wp2_with fail
      refine hK.out _ _ ⟨⟨W6, hS6⟩, rfl⟩ ?_
      clear hK K
      haveI hne : Nonempty (SWA (SCp B N3 (.slice (some ⟨g, 0, none⟩) ks.length c4) (cellJ (gK ks i) vn' vk'))) := ⟨⟨W6, hS6⟩⟩
      (repeat (go_big_quiet_step (fail)))
      refine wpQuiet_nil ?_
      intro K hK
      have hS7 : SCp B N3 (.slice (some ⟨g, 0, none⟩) ks.length c4) (cellJ (gK ks i) vn' vk') (W6.setCells g (i * 4) (cellJ (gK ks i) xn xk)) := by
        have hlo := HS.out.lo
        have hg7 := setCells_gb g (cellJ (gK ks i) xn xk) (i * 4) W6
        refine ⟨?_, ?_⟩
        · have h1 := hS6.1
          unfold World.cell? at h1 ⊢
          rw [hg7.block B HLt6.out (by simp; omega)]; exact h1
        · rw [hg7.block N3 (lt_of_heap hS6.2) (by simpa using Ne.symm HNg.out)]; exact hS6.2
      refine wpList_store_mid rfl 40 (.tmp 26) (.tmp 25) rfl g (i * 4) (cellJ (gK ks i) xn xk).toArray rfl rfl HTh6.out HIn6.out HOne6.out ?_
      show K _ _
      refine hK.out _ _ ⟨⟨_, hS7⟩, rfl⟩ ?_
      clear hK K hne k0
      simp only [Act.put]
      go_wp2_with fail
      go_roundw
      case rel => exact ⟨i + 1, by omega, by go_num, Lib.hid (.inr ⟨g, c4, _, _, rfl, HX.out⟩)⟩
      case measure => simp [intOf]; omega
    · have hd : decide (i < ks.length) = false := by simpa using hlt
      obtain rfl : i = ks.length := by omega
      have HF := Lib.hid HI.out.fin
      go_upto_region 8 with (fail)
      have HInF := Lib.hid (info_sz (.mk k t ns ks) un (.slice A4 ks.length c4))
      have HOneF := Lib.hid (cellJ_one (j := .mk k t ns ks) (jo_form HF.out.jo).1 (jo_form HF.out.jo).2)
      have HBx := Lib.hid HF.out.box
      have HRs := Lib.hid HF.out.res
      have HJF := Lib.hid (show JO (wa.setRow (B + 1) (cellJ (.mk k t ns ks) un (.slice A4 ks.length c4)).toArray) (.mk k t ns ks) (B + 2) (wa.setRow (B + 1) (cellJ (.mk k t ns ks) un (.slice A4 ks.length c4)).toArray).heap.size un (.slice A4 ks.length c4) from by
        have hs : (wa.setRow (B + 1) (cellJ (.mk k t ns ks) un (.slice A4 ks.length c4)).toArray).heap.size = wa.heap.size := by simp
        rw [hs]
        exact JO.frame _ _ _ _ _ (fun b h1 _ _ => setRow_other _ _ _ _ (by omega)) HF.out.jo)
      have HQF : Hid (Q w (wa.setRow (B + 1) (cellJ (.mk k t ns ks) un (.slice A4 ks.length c4)).toArray)) := Lib.hid (HF.out.q.setRow (by have := HB.out; omega) _)
      have HRF := Lib.hid (setRow_at HRs.out (cellJ (.mk k t ns ks) un (.slice A4 ks.length c4)).toArray)
      go_wp2_with (first | refine wpList_load_row rfl 40 (.tmp 1) rfl B rfl 40 (cellJ (.mk k t ns ks) un (.slice A4 ks.length c4)).toArray (0, 0) _ HBx.out Tryd.underlying40 rfl HInF.out ?_ | refine wpList_store_row rfl 40 (.tmp 2) (.tmp 28) rfl (B + 1) (cellJ (.mk k t ns ks) un (.slice A4 ks.length c4)).toArray rfl rfl 40 _ HRs.out HInF.out rfl HOneF.out ?_)
      refine bodyPost_ret (results_cell_row rfl _ _ (B + 1) 40 _ (0, 0) _ (by rfl) HRF.out Tryd.underlying40 rfl HInF.out) rfl ?_
      exact ⟨_, _, rfl, HJF.out.widen (by have := HB.out; omega) (Nat.le_refl _), HQF.out⟩
theorem twin_all : ∀ (n : Nat) (j : JsonD) (d : Nat), cntJ j ≤ n → n ≤ 8000 → wfJ j d = true → ∀ (w : World) (vn vk : Value), JV w j vn vk → Calls Tryd.prog 51 #[.agg (cellJ j vn vk).toArray] w (TwinP j w)
  | 0, j, _, hn, _, _, _, _, _, _ => absurd hn (by have := cnt_pos j; omega)
  | n + 1, .mk k t ns ks, d, hn, h8, hw, w, vn, vk, h => by
    rw [cntJ] at hn
    have h1 := cnt_len ks
    have h2 := wf_names hw
    exact twin_step k t ns ks (by omega) (by omega) (fun i hi W xn xk hx => by
      obtain ⟨d', hd'⟩ := wf_kid hw hi
      exact twin_all n (gK ks i) d' (gK_sub (by omega) hi) (by omega) hd' W xn xk hx) w vn vk h
end Go.Proofs.YtlhhiiemojhjdaaDoor
set_option linter.unusedVariables false
set_option linter.unusedSimpArgs false
namespace Go.Proofs.YtlhhiiemojhjdaaDoor
open Go Go.RowKit
def findJ (j : JsonD) (x : Txt) : JsonD × Bool := if j.kind = 7 ∧ rtB j 20 8000 = true ∧ 0 ≤ ixN x j.names 0 then (gK j.kids (ixN x j.names 0).toNat, true) else (zeroJ, false)
def FindP (j : JsonD) (x : Txt) (w : World) (e : Ending) (w' : World) : Prop := ∃ un uk, e = .returned (.tuple #[.agg (cellJ (findJ j x).1 un uk).toArray, .bool (findJ j x).2]) ∧ JO w' (findJ j x).1 w.heap.size w'.heap.size un uk ∧ Q w w'
theorem ixN_bound (x : Txt) : ∀ (ns : List Txt) (k : Nat), 0 ≤ ixN x ns k → (k : Int) ≤ ixN x ns k ∧ ixN x ns k < k + ns.length
  | [], k, h => by rw [ixN] at h; omega
  | y :: r, k, h => by
    rw [ixN] at h ⊢
    split at h
    · next e => rw [if_pos e]; simp; omega
    · next e => rw [if_neg e]; have := ixN_bound x r (k + 1) h; simp at this ⊢; omega
theorem find_kid {k : Int} {t : Txt} {ns : List Txt} {ks : List JsonD} {x : Txt} {i : Nat} (hk : k = 7) (hr : rtB (.mk k t ns ks) 20 8000 = true) (hi : ixN x ns 0 = (i : Int)) : findJ (.mk k t ns ks) x = (gK ks i, true) := by
  unfold findJ
  rw [if_pos ⟨hk, hr, by show 0 ≤ ixN x ns 0; omega⟩]
  show (gK ks (ixN x ns 0).toNat, true) = _
  rw [hi]; rfl
theorem rt_wf {j : JsonD} {d : Nat} {L : Int} (h : rtB j d L = true) : wfJ j d = true ∧ (cntJ j : Int) ≤ L := by
  unfold rtB at h
  simp only [Bool.and_eq_true, decide_eq_true_eq] at h
  exact h
theorem wf_obj {t : Txt} {ns : List Txt} {ks : List JsonD} {d : Nat} (h : wfJ (.mk 7 t ns ks) d = true) : ns.length = ks.length := by
  rw [wfJ] at h
  simp at h
  omega
theorem find_no {j : JsonD} {x : Txt} (h : ¬ (j.kind = 7 ∧ rtB j 20 8000 = true ∧ 0 ≤ ixN x j.names 0)) : findJ j x = (zeroJ, false) := by
  unfold findJ; rw [if_neg h]
theorem find_none {j : JsonD} {x : Txt} {w W : World} {B : Nat} (hB : w.heap.size = B) (hq : Q w W) (h : findJ j x = (zeroJ, false)) : FindP j x w (.returned (.tuple #[.agg (cellJ zeroJ (.slice none 0 0) (.slice none 0 0)).toArray, .bool false])) (W.setRow (B + 1) zeroC.toArray) := by
  have q := hq.setRow (g := B + 1) (by omega) zeroC.toArray
  refine ⟨.slice none 0 0, .slice none 0 0, ?_, ?_, q⟩
  · rw [h]
  · rw [h]; exact jo_nil q.size
set_option maxRecDepth 100000 in
theorem Find_any (j : JsonD) (x : Txt) (w : World) (vn vk : Value) (hj : JV w j vn vk) (hu : UT w) (hb : bigJ 9223372036854775807 j) :
    Calls Tryd.prog 24 #[.agg (cellJ j vn vk).toArray, .string ⟨x.toArray⟩] w (FindP j x w) := by
  obtain ⟨k, t, ns, ks⟩ := j
  have HC1 := Lib.hid (fun W (hq : Q w W) => isRight_any (.mk k t ns ks) W vn vk (hj.q hq) (Utf8Tabs_below hu hq) hb)
  obtain ⟨A2, c2n, cells, e2, hjk, hcl, hnone, hcc⟩ := hj.cells
  have hnv : NsV w vn ns := by rw [JV] at hj; exact hj.1
  have HIx := Lib.hid (fun W (hq : Q w W) => index_name ns x W vn (hnv.mono (fun _ _ => hq.cell)))
  have HKd := Lib.hid hj.kidAt
  subst e2
  obtain ⟨A1, c1n, rfl, _⟩ := hnv.at
  clear hj hnv hjk hcl hnone hcc hu hb
  go_enter Tryd.func24, Tryd.ntmps24
  go_upto_region 1 with (fail)
  have e1 := heap_alloc_new w (.cells (cellJ (.mk k t ns ks) (.slice A1 ns.length c1n) (.slice A2 ks.length c2n)).toArray 40)
  have q1 : Q w (w.alloc (.cells (cellJ (.mk k t ns ks) (.slice A1 ns.length c1n) (.slice A2 ks.length c2n)).toArray 40)) := (Q.refl w).alloc _
  have s1 : (w.alloc (.cells (cellJ (.mk k t ns ks) (.slice A1 ns.length c1n) (.slice A2 ks.length c2n)).toArray 40)).heap.size = w.heap.size + 1 := by simp
  obtain ⟨W1, hW1⟩ : ∃ W1, w.alloc (.cells (cellJ (.mk k t ns ks) (.slice A1 ns.length c1n) (.slice A2 ks.length c2n)).toArray 40) = W1 := ⟨_, rfl⟩
  rw [hW1] at e1 q1 s1
  rw [hW1]
  have e2 := heap_alloc_new W1 (.cells zeroC.toArray 40)
  have q2 : Q W1 (W1.alloc (.cells zeroC.toArray 40)) := (Q.refl W1).alloc _
  rw [s1] at e2
  obtain ⟨W2, hW2⟩ : ∃ W2, W1.alloc (.cells zeroC.toArray 40) = W2 := ⟨_, rfl⟩
  rw [hW2] at e2 q2
  have hW2' : W1.alloc (.cells #[.int .i64 0, .string ⟨#[]⟩, .slice none 0 0, .slice none 0 0] 40) = W2 := hW2
  rw [hW2']
  obtain ⟨B, hB⟩ : ∃ B, w.heap.size = B := ⟨_, rfl⟩
  have e1 := q2.block e1
  rw [hB] at e1 e2
  rw [hB]
  have HB := Lib.hid hB
  have HE1 := Lib.hid e1
  have HE2 := Lib.hid e2
  have HQ2 := Lib.hid (q1.trans q2)
  clear e1 e2 q1 q2 s1 hW1 hW2 hW2' hB
  have x0 : W2.cell? ⟨B, 0, none⟩ = some (.int .i64 k) := by rw [cell_of_row _ _ _ _ _ _ HE1.out]; rfl
  have x1 : W2.cell? ⟨B, 1, none⟩ = some (.string ⟨t.toArray⟩) := by rw [cell_of_row _ _ _ _ _ _ HE1.out]; rfl
  have x2 : W2.cell? ⟨B, 2, none⟩ = some (.slice A1 ns.length c1n) := by rw [cell_of_row _ _ _ _ _ _ HE1.out]; rfl
  have x3 : W2.cell? ⟨B, 3, none⟩ = some (.slice A2 ks.length c2n) := by rw [cell_of_row _ _ _ _ _ _ HE1.out]; rfl
  have HZI := Lib.hid (info_sz zeroJ (.slice none 0 0) (.slice none 0 0))
  have HZO := Lib.hid (cellJ_one (j := zeroJ) ⟨none, 0, 0, rfl⟩ ⟨none, 0, 0, rfl⟩)
  by_cases hk : k = 7
  · subst hk
    go_wp2_with fail
    refine (HC1.out _ HQ2.out).mono ?_
    rintro e W3 ⟨rfl, hq3⟩
    have HQ3 := Lib.hid (HQ2.out.trans hq3)
    have HE3 := Lib.hid (hq3.block HE2.out)
    have x2 := hq3.cell x2
    have x3 := hq3.cell x3
    clear hq3 x0 x1
    obtain ⟨p, hp⟩ : ∃ p, rtB (.mk 7 t ns ks) 20 8000 = p := ⟨_, rfl⟩
    have HP := Lib.hid hp
    rw [hp]
    clear hp
    cases p with
    | false =>
      have HF : Hid (findJ (.mk 7 t ns ks) x = (zeroJ, false)) := Lib.hid (find_no (fun h => by rw [HP.out] at h; exact absurd h.2.1 (by decide)))
      have HX := Lib.hid (find_none HB.out HQ3.out HF.out)
      have HR0 := Lib.hid (setRow_at HE3.out zeroC.toArray)
      clear x2 x3
      go_wp2_with (refine wpList_store_row rfl 40 (.tmp 4) (.tmp 15) rfl (B + 1) zeroC.toArray rfl rfl 40 _ HE3.out HZI.out rfl HZO.out ?_)
      exact bodyPost_ret (results_json (j := zeroJ) (vn := .slice none 0 0) (vk := .slice none 0 0) (p := 4) (q := 5) rfl (by rfl) HR0.out) rfl HX.out
    | true =>
      go_wp2_with fail
      refine (HIx.out _ HQ3.out).mono ?_
      rintro e W4 ⟨rfl, hq4⟩
      have HQ4 := Lib.hid (HQ3.out.trans hq4)
      have HE4 := Lib.hid (hq4.block HE3.out)
      have x3 := hq4.cell x3
      clear hq4 x2
      obtain ⟨ix, hix⟩ : ∃ ix, ixN x ns 0 = ix := ⟨_, rfl⟩
      have HIX := Lib.hid hix
      rw [hix]
      clear hix
      by_cases hneg : ix < 0
      · have g2 : decide (ix < 0) = true := by simpa using hneg
        have HF : Hid (findJ (.mk 7 t ns ks) x = (zeroJ, false)) := Lib.hid (find_no (fun h => by have h2 : 0 ≤ ixN x ns 0 := h.2.2; rw [HIX.out] at h2; omega))
        have HX := Lib.hid (find_none HB.out HQ4.out HF.out)
        have HR0 := Lib.hid (setRow_at HE4.out zeroC.toArray)
        clear x3
        go_wp2_with (refine wpList_store_row rfl 40 (.tmp 4) (.tmp 22) rfl (B + 1) zeroC.toArray rfl rfl 40 _ HE4.out HZI.out rfl HZO.out ?_)
        exact bodyPost_ret (results_json (j := zeroJ) (vn := .slice none 0 0) (vk := .slice none 0 0) (p := 4) (q := 5) rfl (by rfl) HR0.out) rfl HX.out
      · have hb4 := ixN_bound x ns 0 (by rw [HIX.out]; omega)
        rw [HIX.out] at hb4
        obtain ⟨i, rfl⟩ : ∃ i : Nat, ix = (i : Int) := ⟨ix.toNat, by omega⟩
        have HF := Lib.hid (find_kid rfl HP.out HIX.out)
        have hw := rt_wf HP.out
        have hwn := hw.1
        have hnk := wf_obj hwn
        have hil : i < ks.length := by omega
        have hlk : ks.length ≤ 8000 := by
          have h1 := cnt_len ks
          have h2 := hw.2
          rw [cntJ] at h2
          omega
        have g2 : decide (((i : Nat) : Int) < 0) = false := by simp
        obtain ⟨A', c', e', hc1, hc2, hkd⟩ := HKd.out
        injection e' with e1 _ e2
        subst e1 e2
        obtain ⟨g, off, un, uk, hA⟩ := hkd i hil
        obtain rfl := hA.a
        have HA := Lib.hid (hA.q HQ4.out)
        have HIn := Lib.hid (info_sz (gK ks i) un uk)
        have HTw : Hid (∀ W, Q w W → Calls Tryd.prog 51 #[.agg (cellJ (gK ks i) un uk).toArray] W (TwinP (gK ks i) W)) := Lib.hid (fun W hq => by
          obtain ⟨d', hd'⟩ := wf_kid hwn hil
          have h2 := hw.2
          rw [cntJ] at h2
          have h3 := cnt_gK hil
          exact twin_all 8000 (gK ks i) d' (by omega) (Nat.le_refl _) hd' W un uk (hA.jv.q hq))
        have hd3 : decide (i < ks.length) = true := by simpa using hil
        clear hkd hb4 hw hwn hnk hA hneg HKd
        have HRg := Lib.hid HA.out.rg
        go_upto_region 6 with (fail)
        go_wp2_with (refine wpList_load_mid rfl 40 (.tmp 26) rfl g (off + i * 4) rfl (cellJ (gK ks i) un uk) _ HRg.out Tryd.underlying40 rfl HIn.out ?_; simp only [Act.put, List.setIfInBounds_toArray, List.set_cons_succ, List.set_cons_zero])
        refine (HTw.out _ HQ4.out).mono ?_
        rintro e W5 ⟨xn, xk, rfl, hj5, hq5⟩
        have HJ5 := Lib.hid hj5
        have HQ5 := Lib.hid (HQ4.out.trans hq5)
        have HE5 := Lib.hid (hq5.block HE4.out)
        have HIn5 := Lib.hid (info_sz (gK ks i) xn xk)
        have HOne5 := Lib.hid (cellJ_one (j := gK ks i) (jo_form hj5).1 (jo_form hj5).2)
        have HR0 := Lib.hid (setRow_at HE5.out (cellJ (gK ks i) xn xk).toArray)
        have HX : Hid (FindP (.mk 7 t ns ks) x w (.returned (.tuple #[.agg (cellJ (gK ks i) xn xk).toArray, .bool true])) (W5.setRow (B + 1) (cellJ (gK ks i) xn xk).toArray)) := Lib.hid (by
          have hB := HB.out
          have h4 := HQ4.out.size
          have hE := lt_of_heap HE4.out
          have q := HQ5.out.setRow (g := B + 1) (by omega) (cellJ (gK ks i) xn xk).toArray
          refine ⟨xn, xk, by rw [HF.out], ?_, q⟩
          rw [HF.out]
          have hs : (W5.setRow (B + 1) (cellJ (gK ks i) xn xk).toArray).heap.size = W5.heap.size := by simp
          rw [hs]
          exact (JO.frame _ _ _ _ _ (fun b h1 _ _ => setRow_other _ _ _ _ (by omega)) HJ5.out).widen (by omega) (Nat.le_refl _))
        clear hj5 hq5 x3 hd3 g2
        go_wp2_with (refine wpList_store_row rfl 40 (.tmp 4) (.tmp 28) rfl (B + 1) (cellJ (gK ks i) xn xk).toArray rfl rfl 40 _ HE5.out HIn5.out rfl HOne5.out ?_)
        exact bodyPost_ret (results_json (p := 4) (q := 5) rfl (by rfl) HR0.out) rfl HX.out
  · have g1 : decide (k = 7) = false := by simpa using hk
    have HF : Hid (findJ (.mk k t ns ks) x = (zeroJ, false)) := Lib.hid (find_no (fun h => hk h.1))
    have HX := Lib.hid (find_none HB.out HQ2.out HF.out)
    have HR0 := Lib.hid (setRow_at HE2.out zeroC.toArray)
    clear x1 x2 x3
    go_wp2_with (refine wpList_store_row rfl 40 (.tmp 4) (.tmp 15) rfl (B + 1) zeroC.toArray rfl rfl 40 _ HE2.out HZI.out rfl HZO.out ?_)
    exact bodyPost_ret (results_json (j := zeroJ) (vn := .slice none 0 0) (vk := .slice none 0 0) (p := 4) (q := 5) rfl (by rfl) HR0.out) rfl HX.out
end Go.Proofs.YtlhhiiemojhjdaaDoor
set_option linter.unusedVariables false
set_option linter.unusedSimpArgs false
namespace Go.Proofs.YtlhhiiemojhjdaaDoor
open Go Go.RowKit
def WO (B b : Nat) (l : Txt) (w : World) : Prop := b < B ∧ ∃ p v, w.heap[b]? = some (.cells #[p, v] 72 (0, 0)) ∧ (p = .pointer none ∨ p = .pointer (some ⟨b, 0, none⟩)) ∧ w.ownsRow B 5 1 v l.length (l.map u8V)
structure KW (B b : Nat) (w w' : World) : Prop where
  os : w'.os = w.os
  tape : w'.tape = w.tape
  output : w'.output = w.output
  size : w.heap.size ≤ w'.heap.size
  block : ∀ k o, w.heap[k]? = some o → k ≠ b → (k < B ∨ ∀ c fz, o ≠ .cells c 5 fz) → w'.heap[k]? = some o
theorem KW.refl (B b : Nat) (w : World) : KW B b w w := ⟨rfl, rfl, rfl, Nat.le_refl _, fun _ _ h _ _ => h⟩
theorem KW.trans {B b : Nat} {x y z : World} (h : KW B b x y) (k : KW B b y z) : KW B b x z :=
  ⟨k.os.trans h.os, k.tape.trans h.tape, k.output.trans h.output, Nat.le_trans h.size k.size, fun i o h1 h2 h3 => k.block i o (h.block i o h1 h2 h3) h2 h3⟩
theorem KW.q {B b : Nat} {w w' : World} (h : Q w w') : KW B b w w' := ⟨h.os, h.tape, h.output, h.size, fun k o h1 _ _ => h.block h1⟩
theorem KW.toQ {B b : Nat} {w0 w w' : World} (h : KW B b w w') (hq : Q w0 w) (hb : w0.heap.size ≤ b) (hB : w0.heap.size ≤ B) : Q w0 w' :=
  Q.below hq ⟨h.os, h.tape, h.output, by have := hq.size; have := h.size; omega, fun k hk => by
    have hk2 : k < w.heap.size := Nat.lt_of_lt_of_le hk hq.size
    have e : w.heap[k]? = some w.heap[k] := by simp [hk2]
    rw [h.block k _ e (by omega) (.inl (by omega)), e]⟩
theorem KW.of_gb {B b : Nat} {w w' : World} {row : Option Nat} (h : w.grownBy w' row) (hr : ∀ k, row = some k → k = b ∨ (B ≤ k ∧ ∃ c fz, w.heap[k]? = some (.cells c 5 fz))) : KW B b w w' :=
  ⟨h.os, h.tape, h.output, h.size, fun k o h1 h2 h3 => by
    rw [h.block k (lt_of_heap h1) (fun e => ?_)]; exact h1
    rcases hr k e.symm with h4 | ⟨h4, c, fz, h5⟩
    · exact h2 h4
    · rcases h3 with h3 | h3
      · omega
      · rw [h1] at h5; injection h5 with h5; exact h3 c fz h5⟩
theorem WO.grown {B b : Nat} {l : Txt} {w w' : World} {row : Option Nat} (h : WO B b l w) (hg : w.grownBy w' row) (hr : ∀ r o, row = some r → w.heap[r]? = some o → (∀ c fz, o ≠ .cells c 5 fz) ∧ r ≠ b) : WO B b l w' := by
  obtain ⟨h1, p, v, h2, h3, h4⟩ := h
  refine ⟨h1, p, v, (hg.block b (lt_of_heap h2) (fun e => (hr b _ e.symm h2).2 rfl)).trans h2, h3, World.ownsRow.kept h4 hg ?_⟩
  rcases h4.2 with ⟨rfl, _⟩ | ⟨g, cap, cur, rfl, e1, e2, _⟩
  · exact .inl rfl
  · refine .inr fun e => ?_
    exact (hr g _ e.symm e2).1 _ _ rfl
theorem WO.q {B b : Nat} {l : Txt} {w w' : World} (h : WO B b l w) (hq : Q w w') : WO B b l w' :=
  h.grown (row := none) ⟨hq.os, hq.tape, hq.output, hq.size, fun k hk _ => Below.block hq k hk⟩ (fun _ _ e => by cases e)
theorem WO.lt {B b : Nat} {l : Txt} {w : World} (h : WO B b l w) : b < B ∧ b < w.heap.size := by
  obtain ⟨h1, p, v, h2, _⟩ := h; exact ⟨h1, lt_of_heap h2⟩
theorem info_bld : (Tryd.prog.info? 70).map (·.size) = some 2 := by kernel_rfl
theorem lies_wr : liesAt Tryd.prog Tryd.prog.depth 72 (2 / Tryd.prog.cellsOf 72) 0 70 1 = true := by kernel_rfl
set_option maxRecDepth 100000 in
theorem copyCheck_wo (B b : Nat) (l : Txt) (w : World) (h : WO B b l w) :
    Calls Tryd.prog 114 #[.pointer (some ⟨b, 0, none⟩)] w fun e w' => e = .returned (.tuple #[]) ∧ (∃ v, w'.heap[b]? = some (.cells #[.pointer (some ⟨b, 0, none⟩), v] 72 (0, 0)) ∧ w'.ownsRow B 5 1 v l.length (l.map u8V)) ∧ w.grownBy w' (some b) ∧ w'.heap.size = w.heap.size := by
  obtain ⟨h1, p, v, h2, h3, h4⟩ := h
  have c0 : w.cell? ⟨b, 0, none⟩ = some p := by rw [cell_of_row _ _ _ _ _ _ h2]; rfl
  rcases h3 with rfl | rfl
  · have f0 : w.frozen? ⟨b, 0, none⟩ = false := frozen_of_row w b 0 _ _ h2
    have hsh : w.shape? b = some (72, 2) := by unfold World.shape?; rw [h2]; rfl
    obtain ⟨j, hj, hjs⟩ := Option.map_eq_some_iff.1 info_bld
    have HX : Hid ((∃ v, (w.setCell ⟨b, 0, none⟩ (.pointer (some ⟨b, 0, none⟩))).heap[b]? = some (.cells #[.pointer (some ⟨b, 0, none⟩), v] 72 (0, 0)) ∧ (w.setCell ⟨b, 0, none⟩ (.pointer (some ⟨b, 0, none⟩))).ownsRow B 5 1 v l.length (l.map u8V)) ∧ w.grownBy (w.setCell ⟨b, 0, none⟩ (.pointer (some ⟨b, 0, none⟩))) (some b) ∧ (w.setCell ⟨b, 0, none⟩ (.pointer (some ⟨b, 0, none⟩))).heap.size = w.heap.size) := Lib.hid (by
      refine ⟨⟨v, by rw [heap_setCell_any w b 0 _ _ _ _ h2]; rfl, ?_⟩, gb_set (b := w) ⟨rfl, rfl, rfl, Nat.le_refl _, fun _ _ _ => rfl⟩ 0 _, by simp [World.setCell]⟩
      refine World.ownsRow.kept h4 (gb_set (b := w) ⟨rfl, rfl, rfl, Nat.le_refl _, fun _ _ _ => rfl⟩ 0 _) (.inr fun e => ?_)
      rcases h4.2 with ⟨rfl, _⟩ | ⟨g, cap, cur, rfl, hb, _⟩
      · cases e
      · have : g = b := by simpa [Value.ownBlock] using e
        omega)
    have hne : Tryd.prog.funcs[123]? = some _ := ({ lays166 with } : Lays.n240 Tryd.prog lays166_ren).f276
    clear h2 h4
    go_enter Tryd.func114, Tryd.ntmps114
    go_wp2_with fail
    rw [Lib.run_to_unsafe w ⟨b, 0, none⟩ Tryd.underlying67 Tryd.underlying164 hj (by rw [hjs]; decide) hsh (Nat.zero_lt_succ 1)]
    simp only [Result.andThen]
    rw [Oper.upon_value]
    go_wp2_with fail
    rw [run_callFunc_extern hne (by kernel_rfl) (by kernel_rfl) (by kernel_rfl) (e := Extern.AbiNoEscape.same) (by kernel_rfl)]
    rw [Lib.run_noEscape]
    simp only [Result.andThen]
    rw [Oper.upon_value]
    go_wp2_with fail
    rw [Lib.run_from_unsafe w ⟨b, 0, none⟩ Tryd.underlying164 Tryd.underlying67 hj hsh lies_wr]
    simp only [Result.andThen]
    rw [Oper.upon_value]
    go_wp2_with fail
    go_end0
    exact ⟨rfl, HX.out⟩
  · refine (Any.Builder_copyCheck_used ({ lays166 with } : Lays.n240 Tryd.prog lays166_ren) infoBuilder.toX72 b w c0).mono ?_
    rintro e w' ⟨he, rfl⟩
    exact ⟨he, ⟨v, h2, h4⟩, ⟨rfl, rfl, rfl, Nat.le_refl _, fun _ _ _ => rfl⟩, rfl⟩
theorem u8_infoW : (Tryd.prog.info? 5).map (fun i => (i.zero, i.size, i.bytes)) = some (some (.int .u8 0), 1, 1) := by kernel_rfl
theorem own_kind {w : World} {B : Nat} {v : Value} {n : Nat} {xs : List Value} (h : w.ownsRow B 5 1 v n xs) {k : Nat} (hk : v.ownBlock = some k) : B ≤ k ∧ ∃ c fz, w.heap[k]? = some (.cells c 5 fz) := by
  rcases h.2 with ⟨rfl, _⟩ | ⟨g, cap, cur, rfl, e1, e2, _⟩
  · cases hk
  · simp [Value.ownBlock] at hk
    subst hk
    exact ⟨e1, _, _, e2⟩
set_option maxRecDepth 100000 in
set_option maxHeartbeats 4000000 in
theorem woStr (B b : Nat) (l : Txt) (s : Txt) (w : World) (h : WO B b l w) (hs : B ≤ w.heap.size) (hl : l.length + s.length ≤ 140737488355328) :
    Calls Tryd.prog 98 #[.pointer (some ⟨b, 0, none⟩), .string ⟨s.toArray⟩] w fun e w' => e = .returned (.tuple #[.int .i64 s.length, .nilIface]) ∧ WO B b (l ++ s) w' ∧ KW B b w w' := by
  obtain ⟨i0, hi, hz0, hz1, hz2⟩ := info_parts u8_infoW
  have hbB := h.1
  go_enter Tryd.func98, Tryd.ntmps98
  go_wp2_with fail
  refine (copyCheck_wo B b l w h).mono ?_
  rintro e w1 ⟨rfl, ⟨v, hbk, hown⟩, hg1, hz⟩
  clear h
  have c1 : w1.cell? ⟨b, 1, none⟩ = some v := by rw [cell_of_row _ _ _ _ _ _ hbk]; rfl
  have hlt : b < w1.heap.size := lt_of_heap hbk
  have hs1 : B ≤ w1.heap.size := by omega
  clear hz
  go_upto_region 2 with (fail)
  iterate 19 go_step
  refine Lib.wpList_append_own_string _ rfl (.tmp 12) (.tmp 13) 68 9 rfl B 5 i0 Tryd.underlying68 Tryd.underlying9 hi hz0 hz1 hz2 _ _ _ rfl hown ⟨s.toArray⟩ rfl ?c3 ?c4 hs1 ?_
  case c3 => show l.length + s.length ≤ maxLen; unfold maxLen; omega
  case c4 => show l.length + s.length ≤ _; omega
  intro v' w2 hown' hgrow _
  have hne : v.ownBlock ≠ some b := by
    intro e; have := (own_kind hown e).1; omega
  have hvB : ∀ k, v.ownBlock = some k → B ≤ k ∧ ∃ c fz, w1.heap[k]? = some (.cells c 5 fz) := fun k hk => own_kind hown hk
  have hb2 : w2.heap[b]? = some (.cells #[.pointer (some ⟨b, 0, none⟩), v] 72 (0, 0)) := by
    rw [hgrow.block b hlt (fun e => hne e.symm)]
    exact hbk
  have d0 : w2.cell? ⟨b, 0, none⟩ = some (.pointer (some ⟨b, 0, none⟩)) := by rw [cell_of_row _ _ _ _ _ _ hb2]; rfl
  have d1 : w2.cell? ⟨b, 1, none⟩ = some v := by rw [cell_of_row _ _ _ _ _ _ hb2]; rfl
  have f1 : w2.frozen? ⟨b, 1, none⟩ = false := frozen_of_row w2 b 1 _ _ hb2
  have hone : ∃ A n c, v' = .slice A n c := by
    rcases hown'.2 with ⟨h1, _⟩ | ⟨g, cap, cur, h1, _⟩
    · exact ⟨_, _, _, h1⟩
    · exact ⟨_, _, _, h1⟩
  have hvo : v'.ownBlock ≠ some b := by
    intro e; have := (own_kind hown' e).1; omega
  obtain ⟨A, n, cc, rfl⟩ := hone
  go_wp2
  go_ret2
  refine ⟨rfl, ⟨hbB, _, _, heap_setCell_any w2 b 1 _ _ _ _ hb2, .inr rfl, ?_⟩, ?_⟩
  · have := World.ownsRow.kept hown' (gb_set (b := w2) ⟨rfl, rfl, rfl, Nat.le_refl _, fun _ _ _ => rfl⟩ 1 (.slice A n cc)) (row := some b) (.inr hvo)
    have he : Lib.strCells ⟨s.toArray⟩ = s.map u8V := by rw [strCells_list]; rfl
    have hz : (ByteArray.mk s.toArray).size = s.length := rfl
    rw [he, hz] at this
    simpa using this
  · refine (KW.of_gb hg1 (fun k e => .inl (by cases e; rfl))).trans ((KW.of_gb hgrow (fun k e => .inr (hvB k e))).trans ?_)
    exact KW.of_gb (gb_set (b := w2) ⟨rfl, rfl, rfl, Nat.le_refl _, fun _ _ _ => rfl⟩ 1 _) (fun k e => .inl (by cases e; rfl))
theorem woLen (B b : Nat) (l : Txt) (w : World) (h : WO B b l w) : Calls Tryd.prog 42 #[.pointer (some ⟨b, 0, none⟩)] w fun e w' => e = .returned (.int .i64 l.length) ∧ Q w w' := by
  obtain ⟨h1, p, v, h2, h3, h4⟩ := h
  obtain ⟨A, c, rfl, _⟩ := row_cells h4 (by simp)
  have c1 : w.cell? ⟨b, 1, none⟩ = some (.slice A l.length c) := by rw [cell_of_row _ _ _ _ _ _ h2]; rfl
  clear h2 h3 h4
  go_enter Tryd.func42, Tryd.ntmps42
  go_wp2_with fail
  go_ret
  exact ⟨rfl, Q.refl w⟩
theorem cells_u8 : Tryd.prog.cellsOf 5 = 1 := by kernel_rfl
set_option maxRecDepth 100000 in
set_option maxHeartbeats 4000000 in
theorem woString (B b : Nat) (l : Txt) (w : World) (h : WO B b l w) (h0 : l ≠ []) : Calls Tryd.prog 43 #[.pointer (some ⟨b, 0, none⟩)] w fun e w' => e = .returned (.string ⟨l.toArray⟩) ∧ Below B w w' := by
  obtain ⟨hbB, p, v, hbk, h3, hown⟩ := h
  have hl0 : l.length ≠ 0 := by simpa using h0
  obtain ⟨g, cap, cur, rfl, hbg, hg, hnc, hcm, hcs, htake⟩ : ∃ g cap cur, v = .slice (some ⟨g, 0, none⟩) l.length cap ∧ B ≤ g ∧ w.heap[g]? = some (.cells cur 5 (0, 0)) ∧ l.length ≤ cap ∧ cap ≤ maxLen ∧ cur.size = cap * 1 ∧ cur.toList.take (l.length * 1) = l.map u8V := by
    rcases hown.2 with ⟨_, hz⟩ | ⟨g, cap, cur, hv, r⟩
    · exact absurd hz hl0
    · exact ⟨g, cap, cur, hv, r⟩
  have c1 : w.drew.cell? ⟨b, 1, none⟩ = some (.slice (some ⟨g, 0, none⟩) l.length cap) := by
    have : w.drew.heap[b]? = some (.cells #[p, .slice (some ⟨g, 0, none⟩) l.length cap] 72 (0, 0)) := hbk
    rw [Lib.cell_of_heap this]; rfl
  have hSD : (Builtin.unsafeSliceData_ #[68] 105 #[.slice (some ⟨g, 0, none⟩) l.length cap]).run Tryd.prog w.drew = .ok (.pointer (some ⟨g, 0, none⟩)) w.drew :=
    Lib.run_unsafeSliceData_row _ _ _ _ _ _ (by omega)
  have hUS : (Builtin.unsafeString_ #[105, 3] 9 #[.pointer (some ⟨g, 0, none⟩), .int .i64 l.length]).run Tryd.prog w.drew = .ok (.string ⟨l.toArray⟩) (w.drew.freeze ⟨g, 0, none⟩ l.length) := by
    refine Lib.run_unsafeString_row w.drew 105 3 9 5 Tryd.underlying105 cells_u8 g cur.size (by have hg' : w.drew.heap[g]? = some (.cells cur 5 (0, 0)) := hg; simp [World.shape?, hg']) l h0 (by omega) (by unfold maxLen at hcm; omega) ?_
    intro j x hx
    have := hown.cells (g := g) rfl j (.int .u8 x.toNat) (by simp [u8V, hx])
    exact this
  clear hbk hg hown htake
  have mixed : Tryd.prog.follows .mixedOrders = true := by kernel_rfl
  go_enter Tryd.func43, Tryd.ntmps43
  go_upto_region 1 with (fail)
  go_region_o
  all_goals (go_wp2; go_ret; exact ⟨rfl, Lib.below_freeze (Below.drew (Below.refl B w)) (p := ⟨g, 0, none⟩) hbg _⟩)
end Go.Proofs.YtlhhiiemojhjdaaDoor
set_option linter.unusedVariables false
set_option linter.unusedSimpArgs false
namespace Go.Proofs.YtlhhiiemojhjdaaDoor
open Go Go.RowKit
def CutT (l f : Txt) : Prop := l = f ∨ (8000 < l.length ∧ 8000 < f.length)
theorem CutT.put {l f : Txt} (h : CutT l f) (s : Txt) : CutT (if l.length ≤ 8000 then l ++ s else l) (f ++ s) := by
  rcases h with rfl | ⟨h1, h2⟩
  · split
    · exact .inl rfl
    · right; rw [List.length_append]; omega
  · rw [if_neg (by omega)]; right; rw [List.length_append]; omega
def WR (B b : Nat) (f : Txt) (w : World) : Prop := ∃ l, WO B b l w ∧ CutT l f ∧ l.length ≤ 2000000
theorem WR.q {B b : Nat} {f : Txt} {w w' : World} (h : WR B b f w) (hq : Q w w') : WR B b f w' := by
  obtain ⟨l, h1, h2, h3⟩ := h; exact ⟨l, h1.q hq, h2, h3⟩
def PutP (B b : Nat) (f : Txt) (w : World) (e : Ending) (w' : World) : Prop := e = .returned (.tuple #[]) ∧ WR B b f w' ∧ KW B b w w'
set_option maxRecDepth 100000 in
theorem put_any (B b : Nat) (f s : Txt) (w : World) (h : WR B b f w) (hs : B ≤ w.heap.size) (hl : s.length ≤ 1100000) :
    Calls Tryd.prog 65 #[.pointer (some ⟨b, 0, none⟩), .string ⟨s.toArray⟩] w (PutP B b (f ++ s) w) := by
  obtain ⟨l, h1, h2, h3⟩ := h
  have h4 := h2.put s
  have HL := Lib.hid (woLen B b l w h1)
  by_cases hc : l.length ≤ 8000
  · rw [if_pos hc] at h4
    have HS := Lib.hid (fun W (hq : Q w W) => woStr B b l s W (h1.q hq) (Nat.le_trans hs hq.size) (by omega))
    have HC := Lib.hid h4
    have g1 : decide ((l.length : Int) ≤ 8000) = true := by simp; omega
    have hb : l.length + s.length ≤ 2000000 := by omega
    clear h1 h2 h4 h3 hc hl
    go_enter Tryd.func65, Tryd.ntmps65
    go_wp2_with fail
    refine HL.out.mono ?_
    rintro e w1 ⟨rfl, hq1⟩
    have HQ1 := Lib.hid hq1
    clear hq1
    go_wp2_with fail
    refine (HS.out _ HQ1.out).mono ?_
    rintro e w2 ⟨rfl, h5, h6⟩
    have HX : Hid (PutP B b (f ++ s) w (.returned (.tuple #[])) w2) := Lib.hid ⟨rfl, ⟨_, h5, HC.out, by rw [List.length_append]; exact hb⟩, (KW.q HQ1.out).trans h6⟩
    clear h5 h6
    go_wp2_with fail
    go_end0
    exact HX.out
  · rw [if_neg hc] at h4
    have HO := Lib.hid (fun W (hq : Q w W) => h1.q hq)
    have HC := Lib.hid h4
    have g1 : decide ((l.length : Int) ≤ 8000) = false := by simp; omega
    clear h1 h2 h4 hl
    go_enter Tryd.func65, Tryd.ntmps65
    go_wp2_with fail
    refine HL.out.mono ?_
    rintro e w1 ⟨rfl, hq1⟩
    have HX : Hid (PutP B b (f ++ s) w (.returned (.tuple #[])) w1) := Lib.hid ⟨rfl, ⟨l, HO.out _ hq1, HC.out, h3⟩, KW.q hq1⟩
    clear hq1
    go_wp2_with fail
    go_end0
    exact HX.out
end Go.Proofs.YtlhhiiemojhjdaaDoor
set_option linter.unusedVariables false
set_option linter.unusedSimpArgs false
namespace Go.Proofs.YtlhhiiemojhjdaaDoor
open Go Go.RowKit
def TxI (B b : Nat) (f s : Txt) (w : World) (k : Nat) (W : World) : Prop := WR B b (f ++ 34 :: escL (s.take k)) W ∧ KW B b w W
theorem TxI.next {B b : Nat} {f s : Txt} {w : World} {k : Nat} {W W' : World} {e : Ending} (h : TxI B b f s w k W) (hk : k < s.length) (h2 : PutP B b ((f ++ 34 :: escL (s.take k)) ++ escB (gB s k)) W e W') : e = .returned (.tuple #[]) ∧ TxI B b f s w (k + 1) W' := by
  obtain ⟨h3, h4, h5⟩ := h2
  refine ⟨h3, ?_, h.2.trans h5⟩
  have e1 : s.take (k + 1) = s.take k ++ [gB s k] := by
    rw [List.take_add_one]
    congr 1
    unfold gB
    simp [List.getD, hk]
  rw [e1, escL_app, escL_cons]
  simpa [escL] using h4
theorem escB_len (b : UInt8) : (escB b).length ≤ 6 := by
  unfold escB
  repeat' split
  all_goals simp
theorem sub_at (s : Txt) (k : Nat) (h : k < s.length) : sub s k (k + 1) = [gB s k] := by
  unfold sub gB
  rw [List.take_add_one]
  rw [List.drop_append]
  simp [List.getD, h, Nat.min_eq_left (Nat.le_of_lt h)]
theorem v_is {v : UInt8} {n : Nat} (hn : n < 256) (h : (v.toNat : Int) = (n : Int)) : v = n.toUInt8 := by
  apply UInt8.toNat_inj.1
  rw [Nat.toUInt8, UInt8.toNat_ofNat']
  omega
theorem escA {v : UInt8} (h : (v.toNat : Int) = 34 ∨ (v.toNat : Int) = 92) : [92, v] = escB v := by
  rcases h with h | h
  · have := v_is (n := 34) (by decide) h; subst this; rfl
  · have := v_is (n := 92) (by decide) h; subst this; rfl
theorem esc10 {v : UInt8} (h : (v.toNat : Int) = 10) : [92, 110] = escB v := by
  have := v_is (n := 10) (by decide) h; subst this; rfl
theorem esc13 {v : UInt8} (h : (v.toNat : Int) = 13) : [92, 114] = escB v := by
  have := v_is (n := 13) (by decide) h; subst this; rfl
theorem esc9 {v : UInt8} (h : (v.toNat : Int) = 9) : [92, 116] = escB v := by
  have := v_is (n := 9) (by decide) h; subst this; rfl
theorem escRest {v : UInt8} (h : ¬ v.toNat < 32 ∧ ¬ (v.toNat : Int) = 34 ∧ ¬ (v.toNat : Int) = 92) : [v] = escB v := by
  obtain ⟨h, h1, h2⟩ := h
  have no : ∀ c : UInt8, (v.toNat : Int) ≠ c.toNat → v ≠ c := fun c hc e => hc (by rw [e])
  unfold escB
  rw [if_neg (fun x => x.elim (no 34 h1) (no 92 h2)), if_neg (no 10 (by show _ ≠ (10 : Int); omega)), if_neg (no 13 (by show _ ≠ (13 : Int); omega)), if_neg (no 9 (by show _ ≠ (9 : Int); omega)), if_neg h]
theorem escCtl {v : UInt8} (h : v.toNat < 32 ∧ ¬ (v.toNat : Int) = 10 ∧ ¬ (v.toNat : Int) = 13 ∧ ¬ (v.toNat : Int) = 9) : [92, 117, 48, 48, hexD (v.toNat / 16), hexD (v.toNat % 16)] = escB v := by
  obtain ⟨h, h1, h2, h3⟩ := h
  have no : ∀ c : UInt8, (v.toNat : Int) ≠ c.toNat → v ≠ c := fun c hc e => hc (by rw [e])
  unfold escB
  rw [if_neg (fun x => x.elim (no 34 (by show _ ≠ (34 : Int); omega)) (no 92 (by show _ ≠ (92 : Int); omega))), if_neg (no 10 h1), if_neg (no 13 h2), if_neg (no 9 h3), if_pos h]
theorem hex32 : ∀ n : Fin 32, (92 :: 117 :: 48 :: 48 :: (sub [48, 49] (n.val / 16) (n.val / 16 + 1) ++ sub [48, 49, 50, 51, 52, 53, 54, 55, 56, 57, 97, 98, 99, 100, 101, 102] (n.val % 16) (n.val % 16 + 1)) : Txt) = [92, 117, 48, 48, hexD (n.val / 16), hexD (n.val % 16)] := by decide
theorem escHex {v : UInt8} (h : v.toNat < 32 ∧ ¬ (v.toNat : Int) = 10 ∧ ¬ (v.toNat : Int) = 13 ∧ ¬ (v.toNat : Int) = 9) : (92 :: 117 :: 48 :: 48 :: (sub [48, 49] (v.toNat / 16) (v.toNat / 16 + 1) ++ sub [48, 49, 50, 51, 52, 53, 54, 55, 56, 57, 97, 98, 99, 100, 101, 102] (v.toNat % 16) (v.toNat % 16 + 1)) : Txt) = escB v := by
  rw [← escCtl h]
  exact hex32 ⟨v.toNat, h.1⟩
theorem put_as {b : Nat} {s1 s2 : Txt} {w : World} {R : Ending → World → Prop} (h : Calls Tryd.prog 65 #[.pointer (some ⟨b, 0, none⟩), .string ⟨s2.toArray⟩] w R) (e : s1 = s2) : Calls Tryd.prog 65 #[.pointer (some ⟨b, 0, none⟩), .string ⟨s1.toArray⟩] w R := by subst e; exact h
set_option maxRecDepth 100000 in
theorem qtext_any (B b : Nat) (f s : Txt) (w : World) (h : WR B b f w) (hs : B ≤ w.heap.size) (hl : s.length ≤ 9223372036854775807) :
    Calls Tryd.prog 68 #[.pointer (some ⟨b, 0, none⟩), .string ⟨s.toArray⟩] w (PutP B b (f ++ quoteJ s) w) := by
  have HP0 := Lib.hid (put_any B b f [34] w h hs (by simp))
  have HS := Lib.hid hs
  clear h hs
  go_enter Tryd.func68, Tryd.ntmps68
  go_wp2_with fail
  refine HP0.out.mono ?_
  rintro e w1 ⟨rfl, h1, h2⟩
  have HI0 : Hid (TxI B b f s w 0 w1) := Lib.hid ⟨by simpa [escL] using h1, h2⟩
  clear h1 h2
  go_upto_region 2 with (fail)
  go_loopw [10] (fun i wx => ∃ k : Nat, k ≤ s.length ∧ i = .int .i64 k ∧ Hid (TxI B b f s w k wx)) (fun i _ => s.length - (intOf i).toNat)
  case atStart => exact ⟨0, Nat.zero_le _, rfl, HI0⟩
  case round =>
    obtain ⟨k, hk, rfl, HI⟩ := hrel
    rename World => wa
    by_cases hlt : k < s.length
    · have hd : decide (k < s.length) = true := by simpa using hlt
      obtain ⟨v, hv⟩ : ∃ v, gB s k = v := ⟨_, rfl⟩
      have hp := fun W (h1 : WR B b (f ++ 34 :: escL (s.take k)) W) (h2 : B ≤ W.heap.size) => put_any B b (f ++ 34 :: escL (s.take k)) (escB v) W h1 h2 (by have := escB_len v; omega)
      have HPut := Lib.hid (hp wa HI.out.1 (Nat.le_trans HS.out HI.out.2.size))
      have HV := Lib.hid hv
      have HID : Hid (TxI B b f s w k wa.drew) := Lib.hid ⟨HI.out.1.q (Q.refl wa).drew, HI.out.2.trans (KW.q (Q.refl wa).drew)⟩
      have HPD := Lib.hid (hp wa.drew HID.out.1 (Nat.le_trans HS.out HID.out.2.size))
      clear hp
      have hsub := sub_at s k hlt
      rw [hv] at hsub
      by_cases h2 : v.toNat < 32
      · have g6 : decide ((v.toNat : Int) < 32) = true := by simp; omega
        go_wp2_with fail
        all_goals try (refine (put_as HPut.out (by
            (try simp only [beq_iff_eq, beq_eq_false_iff_ne, ne_eq] at *)
            first | exact escA (by omega) | exact esc10 (by omega) | exact esc13 (by omega) | exact esc9 (by omega) | exact escRest (by omega) | exact escHex (by omega))).mono ?_)
        all_goals try (first
          | (intro e w2 hp
             obtain ⟨rfl, hx⟩ := TxI.next HI.out hlt (by rw [hv]; exact hp)
             have HX := Lib.hid hx
             clear hx hp hsub
             go_wp2_with fail
             go_roundw
             case rel => exact ⟨k + 1, by omega, by go_num, HX⟩
             case measure => simp [intOf]; omega)
          | skip)
        haveI hne : Nonempty (SWA (fun _ : World => True)) := ⟨⟨wa, trivial⟩⟩
        refine wp_plan_A (fun _ => True) trivial [([0, 1, 2, 3, 4, 5, 6, 7, 8, 9, 10, 11, 12, 13, 14], [15])] (by kernel_rfl) (by kernel_rfl) (fun c a d v w h => by cases d <;> exact h) ?_
        simp only [wpPlan, wpListK, List.map_cons, List.map_nil, Array.getD_eq_getD_getElem?, List.getElem?_toArray, List.getElem?_cons_succ, List.getElem?_cons_zero, Option.getD_some, Act.put, List.setIfInBounds_toArray, List.set_cons_succ, List.set_cons_zero]
        (repeat (go_big_quiet_step (fail)))
        refine wpQuiet_nil ?_
        intro K hK
        clear hne
        go_wp2_with fail
        refine (put_as HPD.out (by
            (try simp only [beq_iff_eq, beq_eq_false_iff_ne, ne_eq] at *)
            first | exact escA (by omega) | exact esc10 (by omega) | exact esc13 (by omega) | exact esc9 (by omega) | exact escRest (by omega) | exact escHex (by omega))).mono ?_
        intro e w2 hp
        obtain ⟨rfl, hx⟩ := TxI.next HID.out hlt (by rw [hv]; exact hp)
        have HX := Lib.hid hx
        clear hx hp hsub
        go_wp2_with fail
        refine hK.out _ _ ⟨⟨w2, trivial⟩, rfl⟩ ?_
        clear hK K
        go_wp2_with fail
        go_roundw
        case rel => exact ⟨k + 1, by omega, by go_num, HX⟩
        case measure => simp [intOf]; omega
      · have g6 : decide ((v.toNat : Int) < 32) = false := by simp; omega
        go_wp2_with fail
        all_goals
          refine (put_as HPut.out (by
            (try simp only [beq_iff_eq, beq_eq_false_iff_ne, ne_eq] at *)
            first | exact escA (by omega) | exact esc10 (by omega) | exact esc13 (by omega) | exact esc9 (by omega) | exact escRest (by omega) | exact escHex (by omega))).mono ?_
          intro e w2 hp
          obtain ⟨rfl, hx⟩ := TxI.next HI.out hlt (by rw [hv]; exact hp)
          have HX := Lib.hid hx
          clear hx hp hsub
          go_wp2_with fail
          go_roundw
          case rel => exact ⟨k + 1, by omega, by go_num, HX⟩
          case measure => simp [intOf]; omega
    · have hd : decide (k < s.length) = false := by simpa using hlt
      obtain rfl : k = s.length := by omega
      have HPut := Lib.hid (put_any B b (f ++ 34 :: escL (s.take s.length)) [34] wa HI.out.1 (Nat.le_trans HS.out HI.out.2.size) (by simp))
      rw [List.take_length] at HPut
      have HKW := Lib.hid HI.out.2
      clear HI
      go_wp2_with fail
      refine HPut.out.mono ?_
      rintro e w2 ⟨rfl, h4, h5⟩
      have HX : Hid (PutP B b (f ++ quoteJ s) w (.returned (.tuple #[])) w2) := Lib.hid ⟨rfl, by simpa [quoteJ] using h4, HKW.out.trans h5⟩
      clear h4 h5
      go_wp2_with fail
      go_end0
      exact HX.out
end Go.Proofs.YtlhhiiemojhjdaaDoor
