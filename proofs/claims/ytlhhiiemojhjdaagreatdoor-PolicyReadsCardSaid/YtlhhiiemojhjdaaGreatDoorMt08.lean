/- Texts of this proof, laid into one: KbO, KbP, KbQ. -/
import Derived.Test.YtlhhiiemojhjdaaGreatDoorMt07
import Derived.Defers
import Derived.Recover
set_option linter.unusedVariables false
set_option linter.unusedSimpArgs false
namespace Go.Proofs.YtlhhiiemojhjdaaGreatDoor
open Go Go.RowKit
theorem info_sz (j : JsonD) (vn vk : Value) : (Tryz.prog.info? 46).map (·.size) = some (cellJ j vn vk).toArray.size := by
  obtain ⟨ti, hi, hz0, hz1, hz2⟩ := info_parts info_json
  rw [hi]; show some ti.size = _; rw [hz1]; rfl
structure EndV (b : Nat) (s : Txt) (w0 : World) (jb rv : Nat) (j : JsonD) (r : Txt) (W : World) : Prop where
  blk : ∃ vn vk, W.heap[jb]? = some (.cells (cellJ j vn vk).toArray 46 (0, 0)) ∧ JO W j (jb + 1) W.heap.size vn vk
  res : W.heap[rv]? = some (.cells zeroC.toArray 46 (0, 0))
  gx : GX [b] w0 W
  rd : ∃ q, q ≤ s.length ∧ s.drop q = r ∧ RdB W b s q
  lt : rv < jb
  ge : w0.heap.size ≤ rv
  ne : b < w0.heap.size
theorem end_val {b : Nat} {s : Txt} {w0 : World} {jb rv : Nat} {j : JsonD} {r : Txt} {W : World} (h : EndV b s w0 jb rv j r W) {vn vk : Value} (h1 : W.heap[jb]? = some (.cells (cellJ j vn vk).toArray 46 (0, 0))) (h2 : JO W j (jb + 1) W.heap.size vn vk) :
    ValP b s w0 (.ok j r) (.returned (.agg (cellJ j vn vk).toArray)) (W.setRow rv (cellJ j vn vk).toArray) := by
  have hsz : (W.setRow rv (cellJ j vn vk).toArray).heap.size = W.heap.size := by simp [World.setRow]
  have hf : ∀ k, k ≠ rv → (W.setRow rv (cellJ j vn vk).toArray).heap[k]? = W.heap[k]? := fun k hk => by
    simp only [World.setRow, Array.getElem?_modify]
    rw [if_neg (Ne.symm hk)]
  have h3 := h.lt
  have h4 := h.ge
  have h5 := h.ne
  have h6 := lt_of_heap h1
  refine ⟨⟨vn, vk, rfl, ?_⟩, ?_, ?_⟩
  · rw [hsz]
    exact (JO.frame j _ _ vn vk (fun k e1 e2 e3 => hf k (by omega)) h2).widen (by omega) (Nat.le_refl _)
  · obtain ⟨q, q1, q2, q3⟩ := h.rd
    exact ⟨q, q1, q2, (hf b (by omega)).trans q3⟩
  · exact h.gx.sub ((GX.refl [rv] W).setRow (by simp) _) (fun k hk => by simp at hk; right; omega)
theorem jo_nil {w : World} {k : Int} {t : Txt} {lo hi : Nat} (h : lo ≤ hi) : JO w (.mk k t [] []) lo hi (.slice none 0 0) (.slice none 0 0) := by
  rw [JO]
  exact ⟨h, World.ownsRow_nil _ _ _ _, fun b hb => (by cases hb), fun b hb => (by cases hb), [], World.ownsRow_nil _ _ _ _, by rw [JOK]⟩
structure StV (b : Nat) (D : Int) (B : Nat) (W w1 : World) : Prop where
  q : Q W w1
  r : w1.cell? ⟨B, 0, none⟩ = some (.pointer (some ⟨b, 0, none⟩))
  a : w1.cell? ⟨B + 1, 0, none⟩ = some (.int .i64 D)
  z : w1.heap[B + 2]? = some (.cells zeroC.toArray 46 (0, 0))
  sz : W.heap.size = B
theorem StV.start (b : Nat) (D : Int) (W : World) : StV b D W.heap.size W (((W.alloc (.cells #[.pointer (some ⟨b, 0, none⟩)] 94)).alloc (.cells #[.int .i64 D] 3)).alloc (.cells #[.int .i64 0, .string ⟨#[]⟩, .slice none 0 0, .slice none 0 0] 46)) := by
  have h1 : Q W (W.alloc (.cells #[.pointer (some ⟨b, 0, none⟩)] 94)) := (Q.refl W).alloc _
  have e1 := heap_alloc_new W (.cells #[.pointer (some ⟨b, 0, none⟩)] 94)
  obtain ⟨W1, hW1⟩ : ∃ W1, W.alloc (.cells #[.pointer (some ⟨b, 0, none⟩)] 94) = W1 := ⟨_, rfl⟩
  have s1 : W1.heap.size = W.heap.size + 1 := by rw [← hW1]; simp
  rw [hW1] at h1 e1 ⊢
  have h2 : Q W1 (W1.alloc (.cells #[.int .i64 D] 3)) := (Q.refl W1).alloc _
  have e2 := heap_alloc_new W1 (.cells #[.int .i64 D] 3)
  obtain ⟨W2, hW2⟩ : ∃ W2, W1.alloc (.cells #[.int .i64 D] 3) = W2 := ⟨_, rfl⟩
  have s2 : W2.heap.size = W.heap.size + 2 := by rw [← hW2]; simp [s1]
  rw [hW2] at h2 e2 ⊢
  have h3 : Q W2 (W2.alloc (.cells #[.int .i64 0, .string ⟨#[]⟩, .slice none 0 0, .slice none 0 0] 46)) := (Q.refl W2).alloc _
  have e3 := heap_alloc_new W2 (.cells #[.int .i64 0, .string ⟨#[]⟩, .slice none 0 0, .slice none 0 0] 46)
  refine ⟨(h1.trans h2).trans h3, ?_, ?_, ?_, rfl⟩
  · rw [cell_of_row _ _ _ _ _ _ (h3.block (h2.block e1))]; rfl
  · rw [← s1, cell_of_row _ _ _ _ _ _ (h3.block e2)]; rfl
  · rw [← s2]; exact e3
theorem StV.qq {b : Nat} {D : Int} {B : Nat} {W w1 w2 : World} (h : StV b D B W w1) (hq : Q w1 w2) : StV b D B W w2 :=
  ⟨h.q.trans hq, hq.cell h.r, hq.cell h.a, hq.block h.z, h.sz⟩
structure SJ (b : Nat) (D : Int) (B jb : Nat) (W w1 : World) : Prop where
  v : StV b D B W w1
  j : w1.heap[jb]? = some (.cells zeroC.toArray 46 (0, 0))
  lt : B + 2 < jb
theorem SJ.start {b : Nat} {D : Int} {B : Nat} {W w1 : World} (h : StV b D B W w1) : SJ b D B w1.heap.size W (w1.alloc (.cells #[.int .i64 0, .string ⟨#[]⟩, .slice none 0 0, .slice none 0 0] 46)) :=
  ⟨h.qq ((Q.refl w1).alloc _), heap_alloc_new w1 _, lt_of_heap h.z⟩
theorem setRow_at {w : World} {g : Nat} {old : Array Value} {t : TypeId} (h : w.heap[g]? = some (.cells old t (0, 0))) (cs : Array Value) : (w.setRow g cs).heap[g]? = some (.cells cs t (0, 0)) := by
  simp [World.setRow, Array.getElem?_modify, h]
theorem SJ.end {b : Nat} {D : Int} {B jb : Nat} {W W2 w3 w4 : World} {s r : Txt} {k : Int} {t : Txt} (h : SJ b D B jb W W2) (hb : b < W.heap.size) (hg : GX [b] W2 w3) (hr : ∃ q, q ≤ s.length ∧ s.drop q = r ∧ RdB w3 b s q) (hg4 : GX [jb] w3 w4)
    (h4 : w4.heap[jb]? = some (.cells (cellJ (.mk k t [] []) (.slice none 0 0) (.slice none 0 0)).toArray 46 (0, 0))) : EndV b s W jb (B + 2) (.mk k t [] []) r w4 := by
  have h1 := h.lt
  have h2 := h.v.sz
  have h5 := lt_of_heap h4
  have hz := hg.heap (by simp; omega) h.v.z
  refine ⟨⟨_, _, h4, jo_nil (by omega)⟩, hg4.heap (by simp; omega) hz, ((GX.q h.v.q).trans hg).sub hg4 (fun x hx => by simp at hx; right; omega), ?_, h1, by omega, hb⟩
  obtain ⟨q, q1, q2, q3⟩ := hr
  exact ⟨q, q1, q2, hg4.heap (by simp; omega) q3⟩
theorem SJ.blk {b : Nat} {D : Int} {B jb : Nat} {W W2 w3 : World} (h : SJ b D B jb W W2) (hb : b < W.heap.size) (hg : GX [b] W2 w3) : w3.heap[jb]? = some (.cells zeroC.toArray 46 (0, 0)) :=
  hg.heap (by have := h.lt; have := h.v.sz; simp; omega) h.j
theorem SJ.set1 {w3 : World} {jb : Nat} (h : w3.heap[jb]? = some (.cells zeroC.toArray 46 (0, 0))) (k : Int) :
    (w3.setCell ⟨jb, 0, none⟩ (.int .i64 k)).heap[jb]? = some (.cells (cellJ (.mk k [] [] []) (.slice none 0 0) (.slice none 0 0)).toArray 46 (0, 0)) := by
  rw [heap_setCell_any w3 jb 0 _ _ _ _ h]; rfl
theorem SJ.set2 {w3 : World} {jb : Nat} (h : w3.heap[jb]? = some (.cells zeroC.toArray 46 (0, 0))) (k : Int) (t : Txt) :
    ((w3.setCell ⟨jb, 0, none⟩ (.int .i64 k)).setCell ⟨jb, 1, none⟩ (.string ⟨t.toArray⟩)).heap[jb]? = some (.cells (cellJ (.mk k t [] []) (.slice none 0 0) (.slice none 0 0)).toArray 46 (0, 0)) := by
  rw [heap_setCell_any _ jb 1 _ _ _ _ (SJ.set1 h k)]; rfl
set_option maxRecDepth 100000 in
theorem value_deep (b : Nat) (s : Txt) (hl : s.length ≤ 1000000000) (q : Nat) (W : World) (h : RdB W b s q) (hq : q ≤ s.length) (hv : hdB (s.drop q) = 91 ∨ hdB (s.drop q) = 123) (D : Int) (g20 : (D == 20) = true) :
    Calls Tryz.prog 45 #[.pointer (some ⟨b, 0, none⟩), .int .i64 D] W (ValP b s W (.bad 57 (s.length - q))) := by
  obtain ⟨u, hu⟩ : ∃ u, hdB (s.drop q) = u := ⟨_, rfl⟩
  rw [hu] at hv
  have HU := Lib.hid hu
  have H := Lib.hid h
  have hg : (((u.toNat : Int)) == 91) = true ∨ ((((u.toNat : Int)) == 91) = false ∧ (((u.toNat : Int)) == 123) = true) := by
    by_cases h1 : u = 91
    · exact .inl (eq_byte h1)
    · exact .inr ⟨ne_byte h1, eq_byte (hv.resolve_left h1)⟩
  have HPk := Lib.hid (fun W' (hQ : Q W W') => peek_any b s q W' (h.q hQ) hq (by omega))
  rw [hu] at HPk
  have HX : Hid (∀ w1 w2 bf, Q W w1 → FaultJ w2 bf 57 (q : Int) → Q w1 w2 → ValP b s W (.bad 57 (s.length - q)) (.panicked [{ v := .iface 32 (.pointer (some ⟨bf, 0, none⟩)), recovered := false }]) w2) := Lib.hid (fun w1 w2 bf h1 hf h2 =>
    ⟨⟨bf, rfl, by rw [show s.length - (s.length - q) = q by omega]; exact hf⟩, GX.q (h1.trans h2)⟩)
  clear h hu hv
  rcases hg with g1 | ⟨g1, g2⟩
  all_goals
    go_enter Tryz.func45, Tryz.ntmps45
    go_wp2_with fail
    obtain ⟨B, hB⟩ : ∃ B, W.heap.size = B := ⟨_, rfl⟩
    have hst := StV.start b D W
    rw [hB] at hst
    obtain ⟨w0, hw0⟩ : ∃ w0, (((W.alloc (.cells #[.pointer (some ⟨b, 0, none⟩)] 94)).alloc (.cells #[.int .i64 D] 3)).alloc (.cells #[.int .i64 0, .string ⟨#[]⟩, .slice none 0 0, .slice none 0 0] 46)) = w0 := ⟨_, rfl⟩
    rw [hw0] at hst
    rw [hw0, hB]
    have HS0 := Lib.hid hst
    clear hst hw0 hB
    refine (HPk.out _ HS0.out.q).mono ?_
    rintro e w1 ⟨rfl, hq1⟩
    have HS1 := Lib.hid (HS0.out.qq hq1)
    clear hq1 HPk
    have cr := HS1.out.r
    have ca := HS1.out.a
    have c1 := (H.out.q HS1.out.q).c1
    go_wp2_with fail
    refine (fail_any 57 _ _).mono ?_
    rintro e w2 ⟨⟨bf, rfl, hf⟩, hq2⟩
    have HF := Lib.hid hf
    have HQ2 := Lib.hid hq2
    clear hf hq2
    go_wp2_with fail
    exact ⟨rfl, HX.out _ _ _ HS1.out.q HF.out HQ2.out⟩
set_option maxRecDepth 100000 in
theorem value_text (wB : World) (b : Nat) (s : Txt) (hl : s.length ≤ 1000000000) (q : Nat) (W : World) (h : RdB W b s q) (hRB : RB wB b W) (hq : q ≤ s.length) (hv : hdB (s.drop q) = 34) (D : Int) :
    Calls Tryz.prog 45 #[.pointer (some ⟨b, 0, none⟩), .int .i64 D] W (ValP b s W ((textR (s.drop q)).bind fun t r => .ok (.mk 5 t [] []) r)) := by
  obtain ⟨N, hN⟩ : ∃ N, ((textR (s.drop q)).bind fun t r => PR.ok (JsonD.mk 5 t [] []) r) = N := ⟨_, rfl⟩
  rw [hN]
  have H := Lib.hid h
  have HPk := Lib.hid (fun W' (hQ : Q W W') => peek_any b s q W' (h.q hQ) hq (by omega))
  rw [hv] at HPk
  have HTx : Hid (∀ W', Q W W' → Calls Tryz.prog 63 #[.pointer (some ⟨b, 0, none⟩)] W' (TextP b s (textR (s.drop q)) W')) := Lib.hid (fun W' hQ => text_any b s q wB W' (h.q hQ) (hRB.gx (GX.q hQ)) hq hl)
  obtain ⟨T, hT⟩ : ∃ T, textR (s.drop q) = T := ⟨_, rfl⟩
  rw [hT] at HTx hN
  have HN := Lib.hid hN.symm
  clear h hv hRB hT hN
  go_enter Tryz.func45, Tryz.ntmps45
  go_wp2_with fail
  obtain ⟨B, hB⟩ : ∃ B, W.heap.size = B := ⟨_, rfl⟩
  have hst := StV.start b D W
  rw [hB] at hst
  obtain ⟨w0, hw0⟩ : ∃ w0, (((W.alloc (.cells #[.pointer (some ⟨b, 0, none⟩)] 94)).alloc (.cells #[.int .i64 D] 3)).alloc (.cells #[.int .i64 0, .string ⟨#[]⟩, .slice none 0 0, .slice none 0 0] 46)) = w0 := ⟨_, rfl⟩
  rw [hw0] at hst
  rw [hw0, hB]
  have HS0 := Lib.hid hst
  clear hst hw0 hB
  refine (HPk.out _ HS0.out.q).mono ?_
  rintro e w1 ⟨rfl, hq1⟩
  have HS1 := Lib.hid (HS0.out.qq hq1)
  clear hq1 HPk
  have cr := HS1.out.r
  have ca := HS1.out.a
  go_upto_region 6 with (fail)
  obtain ⟨jb, hjb⟩ : ∃ jb, w1.heap.size = jb := ⟨_, rfl⟩
  obtain ⟨W2, hW2⟩ : ∃ W2, w1.alloc (.cells #[.int .i64 0, .string ⟨#[]⟩, .slice none 0 0, .slice none 0 0] 46) = W2 := ⟨_, rfl⟩
  have HJ := Lib.hid (SJ.start HS1.out)
  rw [hjb, hW2] at HJ
  rw [hjb, hW2]
  clear hjb hW2 cr ca
  have cr := HJ.out.v.r
  have ca := HJ.out.v.a
  have cz0 : W2.cell? ⟨jb, 0, none⟩ = some (.int .i64 0) := by rw [cell_of_row _ _ _ _ _ _ HJ.out.j]; rfl
  have fz0 := frozen_of_row W2 jb 0 _ _ HJ.out.j
  go_wp2_with fail
  refine (HTx.out _ HJ.out.v.q).mono ?_
  intro e w3 hU
  have HU := Lib.hid hU
  clear hU HTx cz0 fz0 cr ca
  rcases T with ⟨t, r⟩ | ⟨c, n⟩
  rotate_left
  · obtain ⟨⟨bf, rfl, hf⟩, hg⟩ := HU.out
    have HX : Hid (ValP b s W N (.panicked [{ v := .iface 32 (.pointer (some ⟨bf, 0, none⟩)), recovered := false }]) w3) := Lib.hid (by
      rw [HN.out]
      exact ⟨⟨bf, rfl, hf⟩, (GX.q HJ.out.v.q).trans hg⟩)
    clear hf hg
    go_wp2_with fail
    exact ⟨rfl, HX.out⟩
  obtain ⟨rfl, hr, hg⟩ := HU.out
  have HBk := Lib.hid (HJ.out.blk H.out.lt hg)
  have HE : Hid (EndV b s W jb (B + 2) (.mk 5 t [] []) r ((w3.setCell ⟨jb, 0, none⟩ (.int .i64 5)).setCell ⟨jb, 1, none⟩ (.string ⟨t.toArray⟩))) := Lib.hid (HJ.out.end H.out.lt hg hr (((GX.refl [jb] w3).set (by simp) _ _).set (by simp) _ _) (SJ.set2 HBk.out 5 t))
  have cz0 : w3.cell? ⟨jb, 0, none⟩ = some (.int .i64 0) := by rw [cell_of_row _ _ _ _ _ _ HBk.out]; rfl
  have cz1 : w3.cell? ⟨jb, 1, none⟩ = some (.string ⟨#[]⟩) := by rw [cell_of_row _ _ _ _ _ _ HBk.out]; rfl
  have fz0 := frozen_of_row w3 jb 0 _ _ HBk.out
  have fz1 := frozen_of_row w3 jb 1 _ _ HBk.out
  clear hr hg HU
  go_upto_region 25 with (fail)
  obtain ⟨W4, hW4⟩ : ∃ W4, ((w3.setCell ⟨jb, 0, none⟩ (.int .i64 5)).setCell ⟨jb, 1, none⟩ (.string ⟨t.toArray⟩)) = W4 := ⟨_, rfl⟩
  rw [hW4] at HE
  rw [hW4]
  clear hW4
  obtain ⟨EV, EK, hE⟩ := HE.out.blk
  have HE1 := Lib.hid hE.1
  have HE2 := Lib.hid hE.2
  have HIn : Hid ((Tryz.prog.info? 46).map (·.size) = some (cellJ (.mk 5 t [] []) EV EK).toArray.size) := Lib.hid (info_sz (.mk 5 t [] []) EV EK)
  have HOne := Lib.hid (cellJ_one (j := (.mk 5 t [] [])) (jo_form hE.2).1 (jo_form hE.2).2)
  clear hE
  iterate 1 go_step
  refine wpList_load_row rfl 46 (.tmp 6) rfl jb rfl 46 (cellJ (.mk 5 t [] []) EV EK).toArray (0, 0) _ HE1.out Tryz.underlying46 rfl HIn.out ?_
  simp only [Act.put, List.setIfInBounds_toArray, List.set_cons_succ, List.set_cons_zero]
  refine wpList_store_row rfl 46 (.tmp 4) (.tmp 83) rfl (B + 2) (cellJ (.mk 5 t [] []) EV EK).toArray rfl rfl 46 _ HE.out.res HIn.out rfl HOne.out ?_
  simp only [Act.put]
  have HX := Lib.hid (end_val HE.out HE1.out HE2.out)
  have HR0 : Hid ((W4.setRow (B + 2) (cellJ (.mk 5 t [] []) EV EK).toArray).heap[B + 2]? = some (.cells (cellJ (.mk 5 t [] []) EV EK).toArray 46 (0, 0))) := Lib.hid (setRow_at HE.out.res _)
  go_wp2_with fail
  exact bodyPost_ret (results_cell_row rfl _ _ (B + 2) 46 _ (0, 0) _ (by rfl) HR0.out Tryz.underlying46 rfl HIn.out) rfl (by rw [HN.out]; exact HX.out)
set_option maxRecDepth 100000 in
theorem value_null (b : Nat) (s : Txt) (hl : s.length ≤ 1000000000) (q : Nat) (W : World) (h : RdB W b s q) (hq : q ≤ s.length) (hv : hdB (s.drop q) = 110) (D : Int) :
    Calls Tryz.prog 45 #[.pointer (some ⟨b, 0, none⟩), .int .i64 D] W (ValP b s W (constR [110, 117, 108, 108] 1 (s.drop q))) := by
  obtain ⟨N, hN⟩ : ∃ N, constR [110, 117, 108, 108] 1 (s.drop q) = N := ⟨_, rfl⟩
  rw [hN]
  have H := Lib.hid h
  have HPk := Lib.hid (fun W' (hQ : Q W W') => peek_any b s q W' (h.q hQ) hq (by omega))
  rw [hv] at HPk
  have HTx : Hid (∀ W', Q W W' → Calls Tryz.prog 65 #[.pointer (some ⟨b, 0, none⟩), .string ⟨#[110, 117, 108, 108]⟩] W' (UnitP b s (wordR [110, 117, 108, 108] (s.drop q)) W')) := Lib.hid (fun W' hQ => word_any b s q [110, 117, 108, 108] W' (h.q hQ) hq hl (by decide))
  have hN : N = (wordR [110, 117, 108, 108] (s.drop q)).bind fun _ t => .ok (.mk 1 [] [] []) t := hN.symm
  obtain ⟨T, hT⟩ : ∃ T, wordR [110, 117, 108, 108] (s.drop q) = T := ⟨_, rfl⟩
  rw [hT] at HTx hN
  have HN := Lib.hid hN
  clear h hv hT hN
  go_enter Tryz.func45, Tryz.ntmps45
  go_wp2_with fail
  obtain ⟨B, hB⟩ : ∃ B, W.heap.size = B := ⟨_, rfl⟩
  have hst := StV.start b D W
  rw [hB] at hst
  obtain ⟨w0, hw0⟩ : ∃ w0, (((W.alloc (.cells #[.pointer (some ⟨b, 0, none⟩)] 94)).alloc (.cells #[.int .i64 D] 3)).alloc (.cells #[.int .i64 0, .string ⟨#[]⟩, .slice none 0 0, .slice none 0 0] 46)) = w0 := ⟨_, rfl⟩
  rw [hw0] at hst
  rw [hw0, hB]
  have HS0 := Lib.hid hst
  clear hst hw0 hB
  refine (HPk.out _ HS0.out.q).mono ?_
  rintro e w1 ⟨rfl, hq1⟩
  have HS1 := Lib.hid (HS0.out.qq hq1)
  clear hq1 HPk
  have cr := HS1.out.r
  have ca := HS1.out.a
  go_upto_region 6 with (fail)
  obtain ⟨jb, hjb⟩ : ∃ jb, w1.heap.size = jb := ⟨_, rfl⟩
  obtain ⟨W2, hW2⟩ : ∃ W2, w1.alloc (.cells #[.int .i64 0, .string ⟨#[]⟩, .slice none 0 0, .slice none 0 0] 46) = W2 := ⟨_, rfl⟩
  have HJ := Lib.hid (SJ.start HS1.out)
  rw [hjb, hW2] at HJ
  rw [hjb, hW2]
  clear hjb hW2 cr ca
  have cr := HJ.out.v.r
  have ca := HJ.out.v.a
  have cz0 : W2.cell? ⟨jb, 0, none⟩ = some (.int .i64 0) := by rw [cell_of_row _ _ _ _ _ _ HJ.out.j]; rfl
  have fz0 := frozen_of_row W2 jb 0 _ _ HJ.out.j
  go_wp2_with fail
  refine (HTx.out _ HJ.out.v.q).mono ?_
  intro e w3 hU
  have HU := Lib.hid hU
  clear hU HTx cz0 fz0 cr ca
  rcases T with ⟨t, r⟩ | ⟨c, n⟩
  rotate_left
  · obtain ⟨⟨bf, rfl, hf⟩, hg⟩ := HU.out
    have HX : Hid (ValP b s W N (.panicked [{ v := .iface 32 (.pointer (some ⟨bf, 0, none⟩)), recovered := false }]) w3) := Lib.hid (by
      rw [HN.out]
      exact ⟨⟨bf, rfl, hf⟩, (GX.q HJ.out.v.q).trans hg⟩)
    clear hf hg
    go_wp2_with fail
    exact ⟨rfl, HX.out⟩
  obtain ⟨rfl, hr, hg⟩ := HU.out
  have HBk := Lib.hid (HJ.out.blk H.out.lt hg)
  have HE : Hid (EndV b s W jb (B + 2) (.mk 1 [] [] []) r (w3.setCell ⟨jb, 0, none⟩ (.int .i64 1))) := Lib.hid (HJ.out.end H.out.lt hg hr ((GX.refl [jb] w3).set (by simp) _ _) (SJ.set1 HBk.out 1))
  have cz0 : w3.cell? ⟨jb, 0, none⟩ = some (.int .i64 0) := by rw [cell_of_row _ _ _ _ _ _ HBk.out]; rfl
  have fz0 := frozen_of_row w3 jb 0 _ _ HBk.out
  clear hr hg HU
  go_upto_region 25 with (fail)
  obtain ⟨W4, hW4⟩ : ∃ W4, (w3.setCell ⟨jb, 0, none⟩ (.int .i64 1)) = W4 := ⟨_, rfl⟩
  rw [hW4] at HE
  rw [hW4]
  clear hW4
  obtain ⟨EV, EK, hE⟩ := HE.out.blk
  have HE1 := Lib.hid hE.1
  have HE2 := Lib.hid hE.2
  have HIn : Hid ((Tryz.prog.info? 46).map (·.size) = some (cellJ (.mk 1 [] [] []) EV EK).toArray.size) := Lib.hid (info_sz (.mk 1 [] [] []) EV EK)
  have HOne := Lib.hid (cellJ_one (j := (.mk 1 [] [] [])) (jo_form hE.2).1 (jo_form hE.2).2)
  clear hE
  iterate 1 go_step
  refine wpList_load_row rfl 46 (.tmp 6) rfl jb rfl 46 (cellJ (.mk 1 [] [] []) EV EK).toArray (0, 0) _ HE1.out Tryz.underlying46 rfl HIn.out ?_
  simp only [Act.put, List.setIfInBounds_toArray, List.set_cons_succ, List.set_cons_zero]
  refine wpList_store_row rfl 46 (.tmp 4) (.tmp 83) rfl (B + 2) (cellJ (.mk 1 [] [] []) EV EK).toArray rfl rfl 46 _ HE.out.res HIn.out rfl HOne.out ?_
  simp only [Act.put]
  have HX := Lib.hid (end_val HE.out HE1.out HE2.out)
  have HR0 : Hid ((W4.setRow (B + 2) (cellJ (.mk 1 [] [] []) EV EK).toArray).heap[B + 2]? = some (.cells (cellJ (.mk 1 [] [] []) EV EK).toArray 46 (0, 0))) := Lib.hid (setRow_at HE.out.res _)
  go_wp2_with fail
  exact bodyPost_ret (results_cell_row rfl _ _ (B + 2) 46 _ (0, 0) _ (by rfl) HR0.out Tryz.underlying46 rfl HIn.out) rfl (by rw [HN.out]; exact HX.out)
set_option maxRecDepth 100000 in
theorem value_true (b : Nat) (s : Txt) (hl : s.length ≤ 1000000000) (q : Nat) (W : World) (h : RdB W b s q) (hq : q ≤ s.length) (hv : hdB (s.drop q) = 116) (D : Int) :
    Calls Tryz.prog 45 #[.pointer (some ⟨b, 0, none⟩), .int .i64 D] W (ValP b s W (constR [116, 114, 117, 101] 3 (s.drop q))) := by
  obtain ⟨N, hN⟩ : ∃ N, constR [116, 114, 117, 101] 3 (s.drop q) = N := ⟨_, rfl⟩
  rw [hN]
  have H := Lib.hid h
  have HPk := Lib.hid (fun W' (hQ : Q W W') => peek_any b s q W' (h.q hQ) hq (by omega))
  rw [hv] at HPk
  have HTx : Hid (∀ W', Q W W' → Calls Tryz.prog 65 #[.pointer (some ⟨b, 0, none⟩), .string ⟨#[116, 114, 117, 101]⟩] W' (UnitP b s (wordR [116, 114, 117, 101] (s.drop q)) W')) := Lib.hid (fun W' hQ => word_any b s q [116, 114, 117, 101] W' (h.q hQ) hq hl (by decide))
  have hN : N = (wordR [116, 114, 117, 101] (s.drop q)).bind fun _ t => .ok (.mk 3 [] [] []) t := hN.symm
  obtain ⟨T, hT⟩ : ∃ T, wordR [116, 114, 117, 101] (s.drop q) = T := ⟨_, rfl⟩
  rw [hT] at HTx hN
  have HN := Lib.hid hN
  clear h hv hT hN
  go_enter Tryz.func45, Tryz.ntmps45
  go_wp2_with fail
  obtain ⟨B, hB⟩ : ∃ B, W.heap.size = B := ⟨_, rfl⟩
  have hst := StV.start b D W
  rw [hB] at hst
  obtain ⟨w0, hw0⟩ : ∃ w0, (((W.alloc (.cells #[.pointer (some ⟨b, 0, none⟩)] 94)).alloc (.cells #[.int .i64 D] 3)).alloc (.cells #[.int .i64 0, .string ⟨#[]⟩, .slice none 0 0, .slice none 0 0] 46)) = w0 := ⟨_, rfl⟩
  rw [hw0] at hst
  rw [hw0, hB]
  have HS0 := Lib.hid hst
  clear hst hw0 hB
  refine (HPk.out _ HS0.out.q).mono ?_
  rintro e w1 ⟨rfl, hq1⟩
  have HS1 := Lib.hid (HS0.out.qq hq1)
  clear hq1 HPk
  have cr := HS1.out.r
  have ca := HS1.out.a
  go_upto_region 6 with (fail)
  obtain ⟨jb, hjb⟩ : ∃ jb, w1.heap.size = jb := ⟨_, rfl⟩
  obtain ⟨W2, hW2⟩ : ∃ W2, w1.alloc (.cells #[.int .i64 0, .string ⟨#[]⟩, .slice none 0 0, .slice none 0 0] 46) = W2 := ⟨_, rfl⟩
  have HJ := Lib.hid (SJ.start HS1.out)
  rw [hjb, hW2] at HJ
  rw [hjb, hW2]
  clear hjb hW2 cr ca
  have cr := HJ.out.v.r
  have ca := HJ.out.v.a
  have cz0 : W2.cell? ⟨jb, 0, none⟩ = some (.int .i64 0) := by rw [cell_of_row _ _ _ _ _ _ HJ.out.j]; rfl
  have fz0 := frozen_of_row W2 jb 0 _ _ HJ.out.j
  go_wp2_with fail
  refine (HTx.out _ HJ.out.v.q).mono ?_
  intro e w3 hU
  have HU := Lib.hid hU
  clear hU HTx cz0 fz0 cr ca
  rcases T with ⟨t, r⟩ | ⟨c, n⟩
  rotate_left
  · obtain ⟨⟨bf, rfl, hf⟩, hg⟩ := HU.out
    have HX : Hid (ValP b s W N (.panicked [{ v := .iface 32 (.pointer (some ⟨bf, 0, none⟩)), recovered := false }]) w3) := Lib.hid (by
      rw [HN.out]
      exact ⟨⟨bf, rfl, hf⟩, (GX.q HJ.out.v.q).trans hg⟩)
    clear hf hg
    go_wp2_with fail
    exact ⟨rfl, HX.out⟩
  obtain ⟨rfl, hr, hg⟩ := HU.out
  have HBk := Lib.hid (HJ.out.blk H.out.lt hg)
  have HE : Hid (EndV b s W jb (B + 2) (.mk 3 [] [] []) r (w3.setCell ⟨jb, 0, none⟩ (.int .i64 3))) := Lib.hid (HJ.out.end H.out.lt hg hr ((GX.refl [jb] w3).set (by simp) _ _) (SJ.set1 HBk.out 3))
  have cz0 : w3.cell? ⟨jb, 0, none⟩ = some (.int .i64 0) := by rw [cell_of_row _ _ _ _ _ _ HBk.out]; rfl
  have fz0 := frozen_of_row w3 jb 0 _ _ HBk.out
  clear hr hg HU
  go_upto_region 25 with (fail)
  obtain ⟨W4, hW4⟩ : ∃ W4, (w3.setCell ⟨jb, 0, none⟩ (.int .i64 3)) = W4 := ⟨_, rfl⟩
  rw [hW4] at HE
  rw [hW4]
  clear hW4
  obtain ⟨EV, EK, hE⟩ := HE.out.blk
  have HE1 := Lib.hid hE.1
  have HE2 := Lib.hid hE.2
  have HIn : Hid ((Tryz.prog.info? 46).map (·.size) = some (cellJ (.mk 3 [] [] []) EV EK).toArray.size) := Lib.hid (info_sz (.mk 3 [] [] []) EV EK)
  have HOne := Lib.hid (cellJ_one (j := (.mk 3 [] [] [])) (jo_form hE.2).1 (jo_form hE.2).2)
  clear hE
  iterate 1 go_step
  refine wpList_load_row rfl 46 (.tmp 6) rfl jb rfl 46 (cellJ (.mk 3 [] [] []) EV EK).toArray (0, 0) _ HE1.out Tryz.underlying46 rfl HIn.out ?_
  simp only [Act.put, List.setIfInBounds_toArray, List.set_cons_succ, List.set_cons_zero]
  refine wpList_store_row rfl 46 (.tmp 4) (.tmp 83) rfl (B + 2) (cellJ (.mk 3 [] [] []) EV EK).toArray rfl rfl 46 _ HE.out.res HIn.out rfl HOne.out ?_
  simp only [Act.put]
  have HX := Lib.hid (end_val HE.out HE1.out HE2.out)
  have HR0 : Hid ((W4.setRow (B + 2) (cellJ (.mk 3 [] [] []) EV EK).toArray).heap[B + 2]? = some (.cells (cellJ (.mk 3 [] [] []) EV EK).toArray 46 (0, 0))) := Lib.hid (setRow_at HE.out.res _)
  go_wp2_with fail
  exact bodyPost_ret (results_cell_row rfl _ _ (B + 2) 46 _ (0, 0) _ (by rfl) HR0.out Tryz.underlying46 rfl HIn.out) rfl (by rw [HN.out]; exact HX.out)
set_option maxRecDepth 100000 in
theorem value_false (b : Nat) (s : Txt) (hl : s.length ≤ 1000000000) (q : Nat) (W : World) (h : RdB W b s q) (hq : q ≤ s.length) (hv : hdB (s.drop q) = 102) (D : Int) :
    Calls Tryz.prog 45 #[.pointer (some ⟨b, 0, none⟩), .int .i64 D] W (ValP b s W (constR [102, 97, 108, 115, 101] 2 (s.drop q))) := by
  obtain ⟨N, hN⟩ : ∃ N, constR [102, 97, 108, 115, 101] 2 (s.drop q) = N := ⟨_, rfl⟩
  rw [hN]
  have H := Lib.hid h
  have HPk := Lib.hid (fun W' (hQ : Q W W') => peek_any b s q W' (h.q hQ) hq (by omega))
  rw [hv] at HPk
  have HTx : Hid (∀ W', Q W W' → Calls Tryz.prog 65 #[.pointer (some ⟨b, 0, none⟩), .string ⟨#[102, 97, 108, 115, 101]⟩] W' (UnitP b s (wordR [102, 97, 108, 115, 101] (s.drop q)) W')) := Lib.hid (fun W' hQ => word_any b s q [102, 97, 108, 115, 101] W' (h.q hQ) hq hl (by decide))
  have hN : N = (wordR [102, 97, 108, 115, 101] (s.drop q)).bind fun _ t => .ok (.mk 2 [] [] []) t := hN.symm
  obtain ⟨T, hT⟩ : ∃ T, wordR [102, 97, 108, 115, 101] (s.drop q) = T := ⟨_, rfl⟩
  rw [hT] at HTx hN
  have HN := Lib.hid hN
  clear h hv hT hN
  go_enter Tryz.func45, Tryz.ntmps45
  go_wp2_with fail
  obtain ⟨B, hB⟩ : ∃ B, W.heap.size = B := ⟨_, rfl⟩
  have hst := StV.start b D W
  rw [hB] at hst
  obtain ⟨w0, hw0⟩ : ∃ w0, (((W.alloc (.cells #[.pointer (some ⟨b, 0, none⟩)] 94)).alloc (.cells #[.int .i64 D] 3)).alloc (.cells #[.int .i64 0, .string ⟨#[]⟩, .slice none 0 0, .slice none 0 0] 46)) = w0 := ⟨_, rfl⟩
  rw [hw0] at hst
  rw [hw0, hB]
  have HS0 := Lib.hid hst
  clear hst hw0 hB
  refine (HPk.out _ HS0.out.q).mono ?_
  rintro e w1 ⟨rfl, hq1⟩
  have HS1 := Lib.hid (HS0.out.qq hq1)
  clear hq1 HPk
  have cr := HS1.out.r
  have ca := HS1.out.a
  go_upto_region 6 with (fail)
  obtain ⟨jb, hjb⟩ : ∃ jb, w1.heap.size = jb := ⟨_, rfl⟩
  obtain ⟨W2, hW2⟩ : ∃ W2, w1.alloc (.cells #[.int .i64 0, .string ⟨#[]⟩, .slice none 0 0, .slice none 0 0] 46) = W2 := ⟨_, rfl⟩
  have HJ := Lib.hid (SJ.start HS1.out)
  rw [hjb, hW2] at HJ
  rw [hjb, hW2]
  clear hjb hW2 cr ca
  have cr := HJ.out.v.r
  have ca := HJ.out.v.a
  have cz0 : W2.cell? ⟨jb, 0, none⟩ = some (.int .i64 0) := by rw [cell_of_row _ _ _ _ _ _ HJ.out.j]; rfl
  have fz0 := frozen_of_row W2 jb 0 _ _ HJ.out.j
  go_wp2_with fail
  refine (HTx.out _ HJ.out.v.q).mono ?_
  intro e w3 hU
  have HU := Lib.hid hU
  clear hU HTx cz0 fz0 cr ca
  rcases T with ⟨t, r⟩ | ⟨c, n⟩
  rotate_left
  · obtain ⟨⟨bf, rfl, hf⟩, hg⟩ := HU.out
    have HX : Hid (ValP b s W N (.panicked [{ v := .iface 32 (.pointer (some ⟨bf, 0, none⟩)), recovered := false }]) w3) := Lib.hid (by
      rw [HN.out]
      exact ⟨⟨bf, rfl, hf⟩, (GX.q HJ.out.v.q).trans hg⟩)
    clear hf hg
    go_wp2_with fail
    exact ⟨rfl, HX.out⟩
  obtain ⟨rfl, hr, hg⟩ := HU.out
  have HBk := Lib.hid (HJ.out.blk H.out.lt hg)
  have HE : Hid (EndV b s W jb (B + 2) (.mk 2 [] [] []) r (w3.setCell ⟨jb, 0, none⟩ (.int .i64 2))) := Lib.hid (HJ.out.end H.out.lt hg hr ((GX.refl [jb] w3).set (by simp) _ _) (SJ.set1 HBk.out 2))
  have cz0 : w3.cell? ⟨jb, 0, none⟩ = some (.int .i64 0) := by rw [cell_of_row _ _ _ _ _ _ HBk.out]; rfl
  have fz0 := frozen_of_row w3 jb 0 _ _ HBk.out
  clear hr hg HU
  go_upto_region 25 with (fail)
  obtain ⟨W4, hW4⟩ : ∃ W4, (w3.setCell ⟨jb, 0, none⟩ (.int .i64 2)) = W4 := ⟨_, rfl⟩
  rw [hW4] at HE
  rw [hW4]
  clear hW4
  obtain ⟨EV, EK, hE⟩ := HE.out.blk
  have HE1 := Lib.hid hE.1
  have HE2 := Lib.hid hE.2
  have HIn : Hid ((Tryz.prog.info? 46).map (·.size) = some (cellJ (.mk 2 [] [] []) EV EK).toArray.size) := Lib.hid (info_sz (.mk 2 [] [] []) EV EK)
  have HOne := Lib.hid (cellJ_one (j := (.mk 2 [] [] [])) (jo_form hE.2).1 (jo_form hE.2).2)
  clear hE
  iterate 1 go_step
  refine wpList_load_row rfl 46 (.tmp 6) rfl jb rfl 46 (cellJ (.mk 2 [] [] []) EV EK).toArray (0, 0) _ HE1.out Tryz.underlying46 rfl HIn.out ?_
  simp only [Act.put, List.setIfInBounds_toArray, List.set_cons_succ, List.set_cons_zero]
  refine wpList_store_row rfl 46 (.tmp 4) (.tmp 83) rfl (B + 2) (cellJ (.mk 2 [] [] []) EV EK).toArray rfl rfl 46 _ HE.out.res HIn.out rfl HOne.out ?_
  simp only [Act.put]
  have HX := Lib.hid (end_val HE.out HE1.out HE2.out)
  have HR0 : Hid ((W4.setRow (B + 2) (cellJ (.mk 2 [] [] []) EV EK).toArray).heap[B + 2]? = some (.cells (cellJ (.mk 2 [] [] []) EV EK).toArray 46 (0, 0))) := Lib.hid (setRow_at HE.out.res _)
  go_wp2_with fail
  exact bodyPost_ret (results_cell_row rfl _ _ (B + 2) 46 _ (0, 0) _ (by rfl) HR0.out Tryz.underlying46 rfl HIn.out) rfl (by rw [HN.out]; exact HX.out)
theorem ten_ne_all {u : UInt8} (h : u = 45 ∨ tenJ u = true) : u ≠ 91 ∧ u ≠ 123 ∧ u ≠ 34 ∧ u ≠ 110 ∧ u ≠ 116 ∧ u ≠ 102 := by
  rcases h with h | h
  · subst h; decide
  · refine ⟨?_, ?_, ?_, ?_, ?_, ?_⟩ <;> (intro e; subst e; exact absurd h (by decide))
set_option maxRecDepth 100000 in
theorem value_number (b : Nat) (s : Txt) (hl : s.length ≤ 1000000000) (q : Nat) (W : World) (h : RdB W b s q) (hq : q ≤ s.length) (hv : hdB (s.drop q) = 45 ∨ tenJ (hdB (s.drop q)) = true) (D : Int) :
    Calls Tryz.prog 45 #[.pointer (some ⟨b, 0, none⟩), .int .i64 D] W (ValP b s W ((numR (s.drop q)).bind fun _ t => .ok (.mk 4 ((s.drop q).take ((s.drop q).length - t.length)) [] []) t)) := by
  obtain ⟨N, hN⟩ : ∃ N, ((numR (s.drop q)).bind fun _ t => PR.ok (JsonD.mk 4 ((s.drop q).take ((s.drop q).length - t.length)) [] []) t) = N := ⟨_, rfl⟩
  rw [hN]
  have H := Lib.hid h
  have HPk := Lib.hid (fun W' (hQ : Q W W') => peek_any b s q W' (h.q hQ) hq (by omega))
  obtain ⟨u, hu⟩ : ∃ u, hdB (s.drop q) = u := ⟨_, rfl⟩
  rw [hu] at HPk hv
  obtain ⟨n1, n2, n3, n4, n5, n6⟩ := ten_ne_all hv
  have g1 : (((u.toNat : Int)) == 91) = false := ne_byte n1
  have g2 : (((u.toNat : Int)) == 123) = false := ne_byte n2
  have g3 : (((u.toNat : Int)) == 34) = false := ne_byte n3
  have g4 : (((u.toNat : Int)) == 110) = false := ne_byte n4
  have g5 : (((u.toNat : Int)) == 116) = false := ne_byte n5
  have g6 : (((u.toNat : Int)) == 102) = false := ne_byte n6
  have hg : (((u.toNat : Int)) == 45) = true ∨ ((((u.toNat : Int)) == 45) = false ∧ decide ((48 : Int) ≤ (u.toNat : Int)) = true ∧ decide ((u.toNat : Int) ≤ 57) = true) := by
    by_cases h1 : u = 45
    · exact .inl (eq_byte h1)
    · have h2 := (ten_iff u).1 (hv.resolve_left h1)
      exact .inr ⟨ne_byte h1, by simp; omega, by simp; omega⟩
  have HTx : Hid (∀ W', Q W W' → Calls Tryz.prog 66 #[.pointer (some ⟨b, 0, none⟩)] W' (NumP b s q (numR (s.drop q)) W')) := Lib.hid (fun W' hQ => number_any b s q W' (h.q hQ) hq hl)
  have HGd := Lib.hid (numR_good (s.drop q))
  obtain ⟨T, hT⟩ : ∃ T, numR (s.drop q) = T := ⟨_, rfl⟩
  rw [hT] at HTx hN HGd
  have HN := Lib.hid hN.symm
  clear h hv hT hN hu n1 n2 n3 n4 n5 n6
  rcases hg with g7 | ⟨g7, g8, g9⟩
  all_goals
    go_enter Tryz.func45, Tryz.ntmps45
    go_wp2_with fail
    obtain ⟨B, hB⟩ : ∃ B, W.heap.size = B := ⟨_, rfl⟩
    have hst := StV.start b D W
    rw [hB] at hst
    obtain ⟨w0, hw0⟩ : ∃ w0, (((W.alloc (.cells #[.pointer (some ⟨b, 0, none⟩)] 94)).alloc (.cells #[.int .i64 D] 3)).alloc (.cells #[.int .i64 0, .string ⟨#[]⟩, .slice none 0 0, .slice none 0 0] 46)) = w0 := ⟨_, rfl⟩
    rw [hw0] at hst
    rw [hw0, hB]
    have HS0 := Lib.hid hst
    clear hst hw0 hB
    refine (HPk.out _ HS0.out.q).mono ?_
    rintro e w1 ⟨rfl, hq1⟩
    have HS1 := Lib.hid (HS0.out.qq hq1)
    clear hq1 HPk
    have cr := HS1.out.r
    have ca := HS1.out.a
    go_upto_region 6 with (fail)
    obtain ⟨jb, hjb⟩ : ∃ jb, w1.heap.size = jb := ⟨_, rfl⟩
    obtain ⟨W2, hW2⟩ : ∃ W2, w1.alloc (.cells #[.int .i64 0, .string ⟨#[]⟩, .slice none 0 0, .slice none 0 0] 46) = W2 := ⟨_, rfl⟩
    have HJ := Lib.hid (SJ.start HS1.out)
    rw [hjb, hW2] at HJ
    rw [hjb, hW2]
    clear hjb hW2 cr ca
    have cr := HJ.out.v.r
    have ca := HJ.out.v.a
    have cz0 : W2.cell? ⟨jb, 0, none⟩ = some (.int .i64 0) := by rw [cell_of_row _ _ _ _ _ _ HJ.out.j]; rfl
    have fz0 := frozen_of_row W2 jb 0 _ _ HJ.out.j
    go_wp2_with fail
    refine (HTx.out _ HJ.out.v.q).mono ?_
    intro e w3 hU
    have HU := Lib.hid hU
    clear hU HTx cz0 fz0 cr ca
    rcases T with ⟨t0, r⟩ | ⟨c, n⟩
    rotate_left
    · obtain ⟨⟨bf, rfl, hf⟩, hg⟩ := HU.out
      have HX : Hid (ValP b s W N (.panicked [{ v := .iface 32 (.pointer (some ⟨bf, 0, none⟩)), recovered := false }]) w3) := Lib.hid (by
        rw [HN.out]
        exact ⟨⟨bf, rfl, hf⟩, (GX.q HJ.out.v.q).trans hg⟩)
      clear hf hg
      go_wp2_with fail
      exact ⟨rfl, HX.out⟩
    obtain ⟨⟨q3, m1, m2, m3, m4, rfl⟩, hg⟩ := HU.out
    obtain ⟨t, ht⟩ : ∃ t, sub s q q3 = t := ⟨_, rfl⟩
    rw [ht]
    have HTk : Hid ((s.drop q).take ((s.drop q).length - r.length) = t) := Lib.hid (by
      rw [← ht, ← m3, List.length_drop, List.length_drop]
      unfold sub
      rw [List.drop_take]
      congr 1
      omega)
    have HBk := Lib.hid (HJ.out.blk H.out.lt hg)
    have HE : Hid (EndV b s W jb (B + 2) (.mk 4 t [] []) r ((w3.setCell ⟨jb, 0, none⟩ (.int .i64 4)).setCell ⟨jb, 1, none⟩ (.string ⟨t.toArray⟩))) := Lib.hid (HJ.out.end H.out.lt hg ⟨q3, m2, m3, m4⟩ (((GX.refl [jb] w3).set (by simp) _ _).set (by simp) _ _) (SJ.set2 HBk.out 4 t))
    have HN : Hid (N = .ok (.mk 4 t [] []) r) := Lib.hid (by rw [HN.out, ← HTk.out]; rfl)
    have cz0 : w3.cell? ⟨jb, 0, none⟩ = some (.int .i64 0) := by rw [cell_of_row _ _ _ _ _ _ HBk.out]; rfl
    have cz1 : w3.cell? ⟨jb, 1, none⟩ = some (.string ⟨#[]⟩) := by rw [cell_of_row _ _ _ _ _ _ HBk.out]; rfl
    have fz0 := frozen_of_row w3 jb 0 _ _ HBk.out
    have fz1 := frozen_of_row w3 jb 1 _ _ HBk.out
    clear hg HU m1 m2 m3 m4 ht
    go_upto_region 25 with (fail)
    obtain ⟨W4, hW4⟩ : ∃ W4, ((w3.setCell ⟨jb, 0, none⟩ (.int .i64 4)).setCell ⟨jb, 1, none⟩ (.string ⟨t.toArray⟩)) = W4 := ⟨_, rfl⟩
    rw [hW4] at HE
    rw [hW4]
    clear hW4
    obtain ⟨EV, EK, hE⟩ := HE.out.blk
    have HE1 := Lib.hid hE.1
    have HE2 := Lib.hid hE.2
    have HIn : Hid ((Tryz.prog.info? 46).map (·.size) = some (cellJ (.mk 4 t [] []) EV EK).toArray.size) := Lib.hid (info_sz (.mk 4 t [] []) EV EK)
    have HOne := Lib.hid (cellJ_one (j := (.mk 4 t [] [])) (jo_form hE.2).1 (jo_form hE.2).2)
    clear hE
    iterate 1 go_step
    refine wpList_load_row rfl 46 (.tmp 6) rfl jb rfl 46 (cellJ (.mk 4 t [] []) EV EK).toArray (0, 0) _ HE1.out Tryz.underlying46 rfl HIn.out ?_
    simp only [Act.put, List.setIfInBounds_toArray, List.set_cons_succ, List.set_cons_zero]
    refine wpList_store_row rfl 46 (.tmp 4) (.tmp 83) rfl (B + 2) (cellJ (.mk 4 t [] []) EV EK).toArray rfl rfl 46 _ HE.out.res HIn.out rfl HOne.out ?_
    simp only [Act.put]
    have HX := Lib.hid (end_val HE.out HE1.out HE2.out)
    have HR0 : Hid ((W4.setRow (B + 2) (cellJ (.mk 4 t [] []) EV EK).toArray).heap[B + 2]? = some (.cells (cellJ (.mk 4 t [] []) EV EK).toArray 46 (0, 0))) := Lib.hid (setRow_at HE.out.res _)
    go_wp2_with fail
    exact bodyPost_ret (results_cell_row rfl _ _ (B + 2) 46 _ (0, 0) _ (by rfl) HR0.out Tryz.underlying46 rfl HIn.out) rfl (by rw [HN.out]; exact HX.out)
set_option maxRecDepth 100000 in
theorem value_bad (b : Nat) (s : Txt) (hl : s.length ≤ 1000000000) (q : Nat) (W : World) (h : RdB W b s q) (hq : q ≤ s.length) (u : UInt8) (hu : hdB (s.drop q) = u) (hv : ¬ (u = 45 ∨ tenJ u = true)) (n1 : u ≠ 91) (n2 : u ≠ 123) (n3 : u ≠ 34) (n4 : u ≠ 110) (n5 : u ≠ 116) (n6 : u ≠ 102) (D : Int) :
    Calls Tryz.prog 45 #[.pointer (some ⟨b, 0, none⟩), .int .i64 D] W (ValP b s W (.bad 54 (s.length - q))) := by
  have H := Lib.hid h
  have HPk := Lib.hid (fun W' (hQ : Q W W') => peek_any b s q W' (h.q hQ) hq (by omega))
  rw [hu] at HPk
  have g1 : (((u.toNat : Int)) == 91) = false := ne_byte n1
  have g2 : (((u.toNat : Int)) == 123) = false := ne_byte n2
  have g3 : (((u.toNat : Int)) == 34) = false := ne_byte n3
  have g4 : (((u.toNat : Int)) == 110) = false := ne_byte n4
  have g5 : (((u.toNat : Int)) == 116) = false := ne_byte n5
  have g6 : (((u.toNat : Int)) == 102) = false := ne_byte n6
  have g7 : (((u.toNat : Int)) == 45) = false := ne_byte (fun e => hv (.inl e))
  have hg : decide ((48 : Int) ≤ (u.toNat : Int)) = false ∨ (decide ((48 : Int) ≤ (u.toNat : Int)) = true ∧ decide ((u.toNat : Int) ≤ 57) = false) := by
    have h2 : ¬ (48 ≤ u.toNat ∧ u.toNat ≤ 57) := fun e => hv (.inr ((ten_iff u).2 e))
    by_cases h1 : 48 ≤ u.toNat
    · exact .inr ⟨by simp; omega, by simp; omega⟩
    · exact .inl (by simp; omega)
  have HX : Hid (∀ w1 w2 bf, Q W w1 → FaultJ w2 bf 54 (q : Int) → Q w1 w2 → ValP b s W (.bad 54 (s.length - q)) (.panicked [{ v := .iface 32 (.pointer (some ⟨bf, 0, none⟩)), recovered := false }]) w2) := Lib.hid (fun w1 w2 bf h1 hf h2 =>
    ⟨⟨bf, rfl, by rw [show s.length - (s.length - q) = q by omega]; exact hf⟩, GX.q (h1.trans h2)⟩)
  clear h hu hv n1 n2 n3 n4 n5 n6
  rcases hg with g8 | ⟨g8, g9⟩
  all_goals
    go_enter Tryz.func45, Tryz.ntmps45
    go_wp2_with fail
    obtain ⟨B, hB⟩ : ∃ B, W.heap.size = B := ⟨_, rfl⟩
    have hst := StV.start b D W
    rw [hB] at hst
    obtain ⟨w0, hw0⟩ : ∃ w0, (((W.alloc (.cells #[.pointer (some ⟨b, 0, none⟩)] 94)).alloc (.cells #[.int .i64 D] 3)).alloc (.cells #[.int .i64 0, .string ⟨#[]⟩, .slice none 0 0, .slice none 0 0] 46)) = w0 := ⟨_, rfl⟩
    rw [hw0] at hst
    rw [hw0, hB]
    have HS0 := Lib.hid hst
    clear hst hw0 hB
    refine (HPk.out _ HS0.out.q).mono ?_
    rintro e w1 ⟨rfl, hq1⟩
    have HS1 := Lib.hid (HS0.out.qq hq1)
    clear hq1 HPk
    have cr := HS1.out.r
    have ca := HS1.out.a
    go_upto_region 6 with (fail)
    obtain ⟨jb, hjb⟩ : ∃ jb, w1.heap.size = jb := ⟨_, rfl⟩
    obtain ⟨W2, hW2⟩ : ∃ W2, w1.alloc (.cells #[.int .i64 0, .string ⟨#[]⟩, .slice none 0 0, .slice none 0 0] 46) = W2 := ⟨_, rfl⟩
    have HJ := Lib.hid (SJ.start HS1.out)
    rw [hjb, hW2] at HJ
    rw [hjb, hW2]
    clear hjb hW2 cr ca
    have cr := HJ.out.v.r
    have ca := HJ.out.v.a
    have cz0 : W2.cell? ⟨jb, 0, none⟩ = some (.int .i64 0) := by rw [cell_of_row _ _ _ _ _ _ HJ.out.j]; rfl
    have fz0 := frozen_of_row W2 jb 0 _ _ HJ.out.j
    have c1 := (H.out.q HJ.out.v.q).c1
    go_wp2_with fail
    refine (fail_any 54 _ _).mono ?_
    rintro e w3 ⟨⟨bf, rfl, hf⟩, hq2⟩
    have HF := Lib.hid hf
    have HQ2 := Lib.hid hq2
    clear hf hq2
    go_wp2_with fail
    exact ⟨rfl, HX.out _ _ _ HJ.out.v.q HF.out HQ2.out⟩
set_option maxRecDepth 100000 in
theorem value_list (d : Nat) (hd : d < 20) (wB : World) (b : Nat) (s : Txt) (IH : ValAll d wB b s) (hl : s.length ≤ 1000000000) (q : Nat) (W : World) (h : RdB W b s q) (hRB : RB wB b W) (hq : q ≤ s.length) (hv : hdB (s.drop q) = 91) :
    Calls Tryz.prog 45 #[.pointer (some ⟨b, 0, none⟩), .int .i64 (20 - ((d + 1 : Nat) : Int))] W (ValP b s W ((rowR (valR d) 93 (s.drop q).tail).bind fun ks t => PR.ok (JsonD.mk 6 [] [] ks) t)) := by
  obtain ⟨N, hN⟩ : ∃ N, ((rowR (valR d) 93 (s.drop q).tail).bind fun ks t => PR.ok (JsonD.mk 6 [] [] ks) t) = N := ⟨_, rfl⟩
  rw [hN]
  have H := Lib.hid h
  have HRB := Lib.hid hRB
  have HIH := Lib.hid IH
  have HPk := Lib.hid (fun W' (hQ : Q W W') => peek_any b s q W' (h.q hQ) hq (by omega))
  rw [hv] at HPk
  have hlt : q < s.length := lt_of_hd (by rw [hv]; decide)
  rw [drop_tail hlt] at hN
  have HN := Lib.hid hN.symm
  obtain ⟨D, hD⟩ : ∃ D : Int, 20 - ((d + 1 : Nat) : Int) = D := ⟨_, rfl⟩
  rw [hD]
  have HD := Lib.hid hD
  have g20 : (D == 20) = false := by simp; omega
  have hmf : ∀ (fn : Fn) (first cap : Array Value) (w : World), (Instr.makeFunc fn first cap).run Tryz.prog w = .ok (.func fn first cap) w := fun _ _ _ _ => rfl
  clear h hv hN IH hRB hD
  go_enter Tryz.func45, Tryz.ntmps45
  go_wp2_with fail
  obtain ⟨B, hB⟩ : ∃ B, W.heap.size = B := ⟨_, rfl⟩
  have hst := StV.start b D W
  rw [hB] at hst
  obtain ⟨w0, hw0⟩ : ∃ w0, (((W.alloc (.cells #[.pointer (some ⟨b, 0, none⟩)] 94)).alloc (.cells #[.int .i64 D] 3)).alloc (.cells #[.int .i64 0, .string ⟨#[]⟩, .slice none 0 0, .slice none 0 0] 46)) = w0 := ⟨_, rfl⟩
  rw [hw0] at hst
  rw [hw0, hB]
  have HS0 := Lib.hid hst
  clear hst hw0 hB
  refine (HPk.out _ HS0.out.q).mono ?_
  rintro e w1 ⟨rfl, hq1⟩
  have HS1 := Lib.hid (HS0.out.qq hq1)
  clear hq1 HPk
  have cr := HS1.out.r
  have ca := HS1.out.a
  go_upto_region 6 with (fail)
  obtain ⟨jb, hjb⟩ : ∃ jb, w1.heap.size = jb := ⟨_, rfl⟩
  obtain ⟨W2, hW2⟩ : ∃ W2, w1.alloc (.cells #[.int .i64 0, .string ⟨#[]⟩, .slice none 0 0, .slice none 0 0] 46) = W2 := ⟨_, rfl⟩
  have HJ := Lib.hid (SJ.start HS1.out)
  rw [hjb, hW2] at HJ
  rw [hjb, hW2]
  clear hjb hW2 cr ca
  have cr := HJ.out.v.r
  have ca := HJ.out.v.a
  have cz0 : W2.cell? ⟨jb, 0, none⟩ = some (.int .i64 0) := by rw [cell_of_row _ _ _ _ _ _ HJ.out.j]; rfl
  have fz0 := frozen_of_row W2 jb 0 _ _ HJ.out.j
  have HB3 := Lib.hid (SJ.set1 HJ.out.j 6)
  have HG3 : Hid (GX [jb] W2 (W2.setCell ⟨jb, 0, none⟩ (.int .i64 6))) := Lib.hid ((GX.refl [jb] W2).set (by simp) _ _)
  have HRow : Hid (Calls Tryz.prog 60 #[.pointer (some ⟨b, 0, none⟩), .int .u8 93, .func (.func 61) #[] #[.pointer (some ⟨jb, 0, none⟩), .pointer (some ⟨B, 0, none⟩), .pointer (some ⟨B + 1, 0, none⟩)]] (W2.setCell ⟨jb, 0, none⟩ (.int .i64 6)) (OneP b s W (ItemI jb B (B + 1) b d) (rowR (valR d) 93 (s.drop (q + 1))))) := Lib.hid (by
    have hbl := H.out.lt
    have hsz := HJ.out.v.sz
    have hjl := HJ.out.lt
    have hR3 : RdB (W2.setCell ⟨jb, 0, none⟩ (.int .i64 6)) b s q := HG3.out.heap (by simp; omega) (H.out.q HJ.out.v.q)
    have := row_any (valR d) (fun l => valR_good d l) (fun l => valR_eats d l) (ItemI jb B (B + 1) b d) 61 #[.pointer (some ⟨jb, 0, none⟩), .pointer (some ⟨B, 0, none⟩), .pointer (some ⟨B + 1, 0, none⟩)] (enters_of Tryz.func61 (by kernel_rfl) rfl) b s W (fun acc X Y hI hg => hI.gx hg) 93 (by decide) hl
      (fun acc qa X hal hI hR hG hqa => item_any d hd wB b s HIH.out hl W jb B (B + 1) (by omega) acc qa X hal hI hR (HRB.out.gx hG) hG hqa) q (W2.setCell ⟨jb, 0, none⟩ (.int .i64 6)) hR3 hlt ((GX.q HJ.out.v.q).sub HG3.out (fun k hk => by simp at hk; right; omega))
      ⟨LstB.start HB3.out, ⟨HG3.out.cellJ (by simp; omega) HJ.out.v.r, by rw [HD.out]; exact HG3.out.cellJ (by simp; omega) HJ.out.v.a, HG3.out.heap (by simp; omega) HJ.out.v.z, by omega, by omega⟩, by omega, by omega, by omega⟩
    exact this)
  have cr3 : (W2.setCell ⟨jb, 0, none⟩ (.int .i64 6)).cell? ⟨B, 0, none⟩ = some (.pointer (some ⟨b, 0, none⟩)) := HG3.out.cellJ (by have := HJ.out.lt; simp; omega) HJ.out.v.r
  go_upto_region 8 with (fail)
  clear cr ca cz0 fz0
  obtain ⟨W3, hW3⟩ : ∃ W3, W2.setCell ⟨jb, 0, none⟩ (.int .i64 6) = W3 := ⟨_, rfl⟩
  rw [hW3] at HB3 HG3 HRow cr3
  rw [hW3]
  clear hW3
  obtain ⟨T, hT⟩ : ∃ T, rowR (valR d) 93 (s.drop (q + 1)) = T := ⟨_, rfl⟩
  have hN := HN.out
  rw [hT] at HRow hN
  have HN2 := Lib.hid hN
  clear hT hN HN
  go_wp2_with fail
  refine HRow.out.mono ?_
  intro e w4 hU
  have HU := Lib.hid hU
  clear hU HRow cr3
  rcases T with ⟨ks, r⟩ | ⟨c, n⟩
  rotate_left
  · obtain ⟨⟨bf, rfl, hf⟩, hg⟩ := HU.out
    have HX : Hid (ValP b s W N (.panicked [{ v := .iface 32 (.pointer (some ⟨bf, 0, none⟩)), recovered := false }]) w4) := Lib.hid (by
      rw [HN2.out]
      exact ⟨⟨bf, rfl, hf⟩, hg⟩)
    clear hf hg
    go_wp2_with fail
    exact ⟨rfl, HX.out⟩
  obtain ⟨rfl, hr, hg, hL, hbx, _⟩ := HU.out
  have HE : Hid (EndV b s W jb (B + 2) (.mk 6 [] [] ks) r w4) := Lib.hid (by
    obtain ⟨vn, vk, h1, h2⟩ := hL.toJO (lo := jb + 1) (Nat.le_refl _)
    have hsz := HJ.out.v.sz
    exact ⟨⟨vn, vk, h1, h2⟩, hbx.z, hg, hr, HJ.out.lt, by omega, H.out.lt⟩)
  have HN := Lib.hid HN2.out
  clear hr hg hL hbx HU
  go_upto_region 25 with (fail)
  obtain ⟨W4, hW4⟩ : ∃ W4, w4 = W4 := ⟨_, rfl⟩
  rw [hW4] at HE
  rw [hW4]
  clear hW4
  obtain ⟨EV, EK, hE⟩ := HE.out.blk
  have HE1 := Lib.hid hE.1
  have HE2 := Lib.hid hE.2
  have HIn : Hid ((Tryz.prog.info? 46).map (·.size) = some (cellJ (.mk 6 [] [] ks) EV EK).toArray.size) := Lib.hid (info_sz (.mk 6 [] [] ks) EV EK)
  have HOne := Lib.hid (cellJ_one (j := (.mk 6 [] [] ks)) (jo_form hE.2).1 (jo_form hE.2).2)
  clear hE
  iterate 1 go_step
  refine wpList_load_row rfl 46 (.tmp 6) rfl jb rfl 46 (cellJ (.mk 6 [] [] ks) EV EK).toArray (0, 0) _ HE1.out Tryz.underlying46 rfl HIn.out ?_
  simp only [Act.put, List.setIfInBounds_toArray, List.set_cons_succ, List.set_cons_zero]
  refine wpList_store_row rfl 46 (.tmp 4) (.tmp 83) rfl (B + 2) (cellJ (.mk 6 [] [] ks) EV EK).toArray rfl rfl 46 _ HE.out.res HIn.out rfl HOne.out ?_
  simp only [Act.put]
  have HX := Lib.hid (end_val HE.out HE1.out HE2.out)
  have HR0 : Hid ((W4.setRow (B + 2) (cellJ (.mk 6 [] [] ks) EV EK).toArray).heap[B + 2]? = some (.cells (cellJ (.mk 6 [] [] ks) EV EK).toArray 46 (0, 0))) := Lib.hid (setRow_at HE.out.res _)
  go_wp2_with fail
  exact bodyPost_ret (results_cell_row rfl _ _ (B + 2) 46 _ (0, 0) _ (by rfl) HR0.out Tryz.underlying46 rfl HIn.out) rfl (by rw [HN.out]; exact HX.out)
set_option maxRecDepth 100000 in
theorem value_object (d : Nat) (hd : d < 20) (wB : World) (b : Nat) (s : Txt) (IH : ValAll d wB b s) (hl : s.length ≤ 1000000000) (q : Nat) (W : World) (h : RdB W b s q) (hRB : RB wB b W) (hq : q ≤ s.length) (hv : hdB (s.drop q) = 123) :
    Calls Tryz.prog 45 #[.pointer (some ⟨b, 0, none⟩), .int .i64 (20 - ((d + 1 : Nat) : Int))] W (ValP b s W ((rowR (pairR (valR d)) 125 (s.drop q).tail).bind fun ks t => PR.ok (JsonD.mk 7 [] (ks.map (·.1)) (ks.map (·.2))) t)) := by
  obtain ⟨N, hN⟩ : ∃ N, ((rowR (pairR (valR d)) 125 (s.drop q).tail).bind fun ks t => PR.ok (JsonD.mk 7 [] (ks.map (·.1)) (ks.map (·.2))) t) = N := ⟨_, rfl⟩
  rw [hN]
  have H := Lib.hid h
  have HRB := Lib.hid hRB
  have HIH := Lib.hid IH
  have HPk := Lib.hid (fun W' (hQ : Q W W') => peek_any b s q W' (h.q hQ) hq (by omega))
  rw [hv] at HPk
  have hlt : q < s.length := lt_of_hd (by rw [hv]; decide)
  rw [drop_tail hlt] at hN
  have HN := Lib.hid hN.symm
  obtain ⟨D, hD⟩ : ∃ D : Int, 20 - ((d + 1 : Nat) : Int) = D := ⟨_, rfl⟩
  rw [hD]
  have HD := Lib.hid hD
  have g20 : (D == 20) = false := by simp; omega
  have hmf : ∀ (fn : Fn) (first cap : Array Value) (w : World), (Instr.makeFunc fn first cap).run Tryz.prog w = .ok (.func fn first cap) w := fun _ _ _ _ => rfl
  clear h hv hN IH hRB hD
  go_enter Tryz.func45, Tryz.ntmps45
  go_wp2_with fail
  obtain ⟨B, hB⟩ : ∃ B, W.heap.size = B := ⟨_, rfl⟩
  have hst := StV.start b D W
  rw [hB] at hst
  obtain ⟨w0, hw0⟩ : ∃ w0, (((W.alloc (.cells #[.pointer (some ⟨b, 0, none⟩)] 94)).alloc (.cells #[.int .i64 D] 3)).alloc (.cells #[.int .i64 0, .string ⟨#[]⟩, .slice none 0 0, .slice none 0 0] 46)) = w0 := ⟨_, rfl⟩
  rw [hw0] at hst
  rw [hw0, hB]
  have HS0 := Lib.hid hst
  clear hst hw0 hB
  refine (HPk.out _ HS0.out.q).mono ?_
  rintro e w1 ⟨rfl, hq1⟩
  have HS1 := Lib.hid (HS0.out.qq hq1)
  clear hq1 HPk
  have cr := HS1.out.r
  have ca := HS1.out.a
  go_upto_region 6 with (fail)
  obtain ⟨jb, hjb⟩ : ∃ jb, w1.heap.size = jb := ⟨_, rfl⟩
  obtain ⟨W2, hW2⟩ : ∃ W2, w1.alloc (.cells #[.int .i64 0, .string ⟨#[]⟩, .slice none 0 0, .slice none 0 0] 46) = W2 := ⟨_, rfl⟩
  have HJ := Lib.hid (SJ.start HS1.out)
  rw [hjb, hW2] at HJ
  rw [hjb, hW2]
  clear hjb hW2 cr ca
  have cr := HJ.out.v.r
  have ca := HJ.out.v.a
  have cz0 : W2.cell? ⟨jb, 0, none⟩ = some (.int .i64 0) := by rw [cell_of_row _ _ _ _ _ _ HJ.out.j]; rfl
  have fz0 := frozen_of_row W2 jb 0 _ _ HJ.out.j
  have HB3 := Lib.hid (SJ.set1 HJ.out.j 7)
  have HG3 : Hid (GX [jb] W2 (W2.setCell ⟨jb, 0, none⟩ (.int .i64 7))) := Lib.hid ((GX.refl [jb] W2).set (by simp) _ _)
  have HRow : Hid (Calls Tryz.prog 60 #[.pointer (some ⟨b, 0, none⟩), .int .u8 125, .func (.func 62) #[] #[.pointer (some ⟨B, 0, none⟩), .pointer (some ⟨jb, 0, none⟩), .pointer (some ⟨B + 1, 0, none⟩)]] (W2.setCell ⟨jb, 0, none⟩ (.int .i64 7)) (OneP b s W (PairI jb B (B + 1) b d) (rowR (pairR (valR d)) 125 (s.drop (q + 1))))) := Lib.hid (by
    have hbl := H.out.lt
    have hsz := HJ.out.v.sz
    have hjl := HJ.out.lt
    have hR3 : RdB (W2.setCell ⟨jb, 0, none⟩ (.int .i64 7)) b s q := HG3.out.heap (by simp; omega) (H.out.q HJ.out.v.q)
    have := row_any (pairR (valR d)) (fun l => pairR_good (valR_good d) l) (fun l => pairR_eats (valR_good d) l) (PairI jb B (B + 1) b d) 62 #[.pointer (some ⟨B, 0, none⟩), .pointer (some ⟨jb, 0, none⟩), .pointer (some ⟨B + 1, 0, none⟩)] (enters_of Tryz.func62 (by kernel_rfl) rfl) b s W (fun acc X Y hI hg => hI.gx hg) 125 (by decide) hl
      (fun acc qa X hal hI hR hG hqa => pair_any d hd wB b s HIH.out hl W jb B (B + 1) (by omega) acc qa X hal hI hR (HRB.out.gx hG) hG hqa) q (W2.setCell ⟨jb, 0, none⟩ (.int .i64 7)) hR3 hlt ((GX.q HJ.out.v.q).sub HG3.out (fun k hk => by simp at hk; right; omega))
      ⟨LstB.start HB3.out, ⟨HG3.out.cellJ (by simp; omega) HJ.out.v.r, by rw [HD.out]; exact HG3.out.cellJ (by simp; omega) HJ.out.v.a, HG3.out.heap (by simp; omega) HJ.out.v.z, by omega, by omega⟩, by omega, by omega, by omega⟩
    exact this)
  have cr3 : (W2.setCell ⟨jb, 0, none⟩ (.int .i64 7)).cell? ⟨B, 0, none⟩ = some (.pointer (some ⟨b, 0, none⟩)) := HG3.out.cellJ (by have := HJ.out.lt; simp; omega) HJ.out.v.r
  go_upto_region 11 with (fail)
  clear cr ca cz0 fz0
  obtain ⟨W3, hW3⟩ : ∃ W3, W2.setCell ⟨jb, 0, none⟩ (.int .i64 7) = W3 := ⟨_, rfl⟩
  rw [hW3] at HB3 HG3 HRow cr3
  rw [hW3]
  clear hW3
  obtain ⟨T, hT⟩ : ∃ T, rowR (pairR (valR d)) 125 (s.drop (q + 1)) = T := ⟨_, rfl⟩
  have hN := HN.out
  rw [hT] at HRow hN
  have HN2 := Lib.hid hN
  clear hT hN HN
  go_wp2_with fail
  refine HRow.out.mono ?_
  intro e w4 hU
  have HU := Lib.hid hU
  clear hU HRow cr3
  rcases T with ⟨ks, r⟩ | ⟨c, n⟩
  rotate_left
  · obtain ⟨⟨bf, rfl, hf⟩, hg⟩ := HU.out
    have HX : Hid (ValP b s W N (.panicked [{ v := .iface 32 (.pointer (some ⟨bf, 0, none⟩)), recovered := false }]) w4) := Lib.hid (by
      rw [HN2.out]
      exact ⟨⟨bf, rfl, hf⟩, hg⟩)
    clear hf hg
    go_wp2_with fail
    exact ⟨rfl, HX.out⟩
  obtain ⟨rfl, hr, hg, hL, hbx, _⟩ := HU.out
  have HE : Hid (EndV b s W jb (B + 2) (.mk 7 [] (ks.map (·.1)) (ks.map (·.2))) r w4) := Lib.hid (by
    obtain ⟨vn, vk, h1, h2⟩ := hL.toJO (lo := jb + 1) (Nat.le_refl _)
    have hsz := HJ.out.v.sz
    exact ⟨⟨vn, vk, h1, h2⟩, hbx.z, hg, hr, HJ.out.lt, by omega, H.out.lt⟩)
  have HN := Lib.hid HN2.out
  clear hr hg hL hbx HU
  go_upto_region 25 with (fail)
  obtain ⟨W4, hW4⟩ : ∃ W4, w4 = W4 := ⟨_, rfl⟩
  rw [hW4] at HE
  rw [hW4]
  clear hW4
  obtain ⟨EV, EK, hE⟩ := HE.out.blk
  have HE1 := Lib.hid hE.1
  have HE2 := Lib.hid hE.2
  have HIn : Hid ((Tryz.prog.info? 46).map (·.size) = some (cellJ (.mk 7 [] (ks.map (·.1)) (ks.map (·.2))) EV EK).toArray.size) := Lib.hid (info_sz (.mk 7 [] (ks.map (·.1)) (ks.map (·.2))) EV EK)
  have HOne := Lib.hid (cellJ_one (j := (.mk 7 [] (ks.map (·.1)) (ks.map (·.2)))) (jo_form hE.2).1 (jo_form hE.2).2)
  clear hE
  iterate 1 go_step
  refine wpList_load_row rfl 46 (.tmp 6) rfl jb rfl 46 (cellJ (.mk 7 [] (ks.map (·.1)) (ks.map (·.2))) EV EK).toArray (0, 0) _ HE1.out Tryz.underlying46 rfl HIn.out ?_
  simp only [Act.put, List.setIfInBounds_toArray, List.set_cons_succ, List.set_cons_zero]
  refine wpList_store_row rfl 46 (.tmp 4) (.tmp 83) rfl (B + 2) (cellJ (.mk 7 [] (ks.map (·.1)) (ks.map (·.2))) EV EK).toArray rfl rfl 46 _ HE.out.res HIn.out rfl HOne.out ?_
  simp only [Act.put]
  have HX := Lib.hid (end_val HE.out HE1.out HE2.out)
  have HR0 : Hid ((W4.setRow (B + 2) (cellJ (.mk 7 [] (ks.map (·.1)) (ks.map (·.2))) EV EK).toArray).heap[B + 2]? = some (.cells (cellJ (.mk 7 [] (ks.map (·.1)) (ks.map (·.2))) EV EK).toArray 46 (0, 0))) := Lib.hid (setRow_at HE.out.res _)
  go_wp2_with fail
  exact bodyPost_ret (results_cell_row rfl _ _ (B + 2) 46 _ (0, 0) _ (by rfl) HR0.out Tryz.underlying46 rfl HIn.out) rfl (by rw [HN.out]; exact HX.out)
end Go.Proofs.YtlhhiiemojhjdaaGreatDoor
set_option linter.unusedVariables false
set_option linter.unusedSimpArgs false
namespace Go.Proofs.YtlhhiiemojhjdaaGreatDoor
open Go Go.RowKit
theorem value_atom (wB : World) (b : Nat) (s : Txt) (hl : s.length ≤ 1000000000) (q : Nat) (W : World) (h : RdB W b s q) (hRB : RB wB b W) (hq : q ≤ s.length) (n1 : hdB (s.drop q) ≠ 91) (n2 : hdB (s.drop q) ≠ 123) (D : Int) :
    Calls Tryz.prog 45 #[.pointer (some ⟨b, 0, none⟩), .int .i64 D] W (ValP b s W (atomR (s.drop q))) := by
  unfold atomR
  by_cases h1 : hdB (s.drop q) = 34
  · rw [if_pos h1]; exact value_text wB b s hl q W h hRB hq h1 D
  · rw [if_neg h1]
    by_cases h2 : hdB (s.drop q) = 110
    · rw [if_pos h2]; exact value_null b s hl q W h hq h2 D
    · rw [if_neg h2]
      by_cases h3 : hdB (s.drop q) = 116
      · rw [if_pos h3]; exact value_true b s hl q W h hq h3 D
      · rw [if_neg h3]
        by_cases h4 : hdB (s.drop q) = 102
        · rw [if_pos h4]; exact value_false b s hl q W h hq h4 D
        · rw [if_neg h4]
          by_cases h5 : hdB (s.drop q) = 45 ∨ tenJ (hdB (s.drop q)) = true
          · rw [if_pos h5]; exact value_number b s hl q W h hq h5 D
          · rw [if_neg h5, List.length_drop]; exact value_bad b s hl q W h hq _ rfl h5 n1 n2 h1 h2 h3 h4 D
theorem value_all (wB : World) (b : Nat) (s : Txt) (hl : s.length ≤ 1000000000) : ∀ d, d ≤ 20 → ValAll d wB b s
  | 0, _ => fun q W h hRB hq => by
    rw [valR]
    by_cases hv : hdB (s.drop q) = 91 ∨ hdB (s.drop q) = 123
    · rw [if_pos hv, List.length_drop]; exact value_deep b s hl q W h hq hv _ rfl
    · rw [if_neg hv]; exact value_atom wB b s hl q W h hRB hq (fun e => hv (.inl e)) (fun e => hv (.inr e)) _
  | d + 1, hd => fun q W h hRB hq => by
    rw [valR]
    by_cases h1 : hdB (s.drop q) = 91
    · rw [if_pos h1]; exact value_list d (by omega) wB b s (value_all wB b s hl d (by omega)) hl q W h hRB hq h1
    · rw [if_neg h1]
      by_cases h2 : hdB (s.drop q) = 123
      · rw [if_pos h2]; exact value_object d (by omega) wB b s (value_all wB b s hl d (by omega)) hl q W h hRB hq h2
      · rw [if_neg h2]; exact value_atom wB b s hl q W h hRB hq h1 h2 _
end Go.Proofs.YtlhhiiemojhjdaaGreatDoor
set_option linter.unusedVariables false
set_option linter.unusedSimpArgs false
namespace Go.Proofs.YtlhhiiemojhjdaaGreatDoor
open Go Go.RowKit
theorem isFault (a : Option Addr) (w : World) : (Instr.typeAssert (.iface 32 (.pointer a)) 20 32 true).run Tryz.prog w = .ok (.tuple #[.pointer a, .bool true]) w := by kernel_rfl
set_option maxRecDepth 100000 in
theorem catch_fault (p : Addr) (x : Value) (a : Option Addr) (older : List PanicEntry) (w : World) (hc : w.cell? p = some x) (hz : w.frozen? p = false) :
    CallsD Tryz.prog 57 #[.pointer (some p)] (.panicking ({ v := .iface 32 (.pointer a), recovered := false } :: older)) w fun e u' w' =>
      e = .returned (.tuple #[]) ∧ u' = .panicking ({ v := .iface 32 (.pointer a), recovered := true } :: older) ∧ w' = w.setCell p (.iface 32 (.pointer a)) := by
  refine callsD_of_wpS Tryz.func57 rfl fun c₀ cs hu => ?_
  apply wpS_seq
  apply wpS_region
  simp [wpOpsS, go_sem, recoverD, hu, Tryz.ntmps57, Exit.thenS]
  refine wpS_of_wp ?_
  have e : (#[Value.pointer (some p)] ++ ((Array.replicate 16 undef).setIfInBounds 3 (Value.iface 32 (.pointer a))).setIfInBounds 0 (Value.iface 32 (.pointer a))) = #[.pointer (some p), .iface 32 (.pointer a), undef, undef, .iface 32 (.pointer a), undef, undef, undef, undef, undef, undef, undef, undef, undef, undef, undef, undef] := by
    rw [← Array.toList_inj]; simp [List.replicate]
  rw [e]
  clear e
  have ha := isFault a
  go_wp2_with fail
  simp [bodyPostS, results, Tryz.results57]
set_option maxRecDepth 100000 in
theorem catch_none (p : Addr) (w : World) :
    CallsD Tryz.prog 57 #[.pointer (some p)] .returning w fun e u' w' => e = .returned (.tuple #[]) ∧ u' = .returning ∧ w' = w := by
  refine callsD_of_wpS Tryz.func57 rfl fun c₀ cs hu => ?_
  apply wpS_seq
  apply wpS_region
  simp [wpOpsS, go_sem, recoverD, hu, Tryz.ntmps57, Exit.thenS]
  refine wpS_of_wp ?_
  have e : (#[Value.pointer (some p)] ++ ((Array.replicate 16 undef).setIfInBounds 3 Value.nilIface).setIfInBounds 0 Value.nilIface) = #[.pointer (some p), .nilIface, undef, undef, .nilIface, undef, undef, undef, undef, undef, undef, undef, undef, undef, undef, undef, undef] := by
    rw [← Array.toList_inj]; simp [List.replicate]
  rw [e]
  clear e
  go_wp2_with fail
  cases c₀
  simp_all [bodyPostS, results, Tryz.results57]
def TryP (A : World → Prop) (Bad : Nat → World → Prop) (e : Ending) (w' : World) : Prop :=
  (e = .returned .nilIface ∧ A w') ∨ ∃ bf, e = .returned (.iface 32 (.pointer (some ⟨bf, 0, none⟩))) ∧ Bad bf w'
def TriedP (N : Nat) (A : World → Prop) (Bad : Nat → World → Prop) (e : Ending) (w' : World) : Prop :=
  w'.heap[N]? = some (.cells #[.nilIface] 27 (0, 0)) ∧ ((e = .returned (.tuple #[]) ∧ A w') ∨ ∃ bf, e = .panicked [{ v := .iface 32 (.pointer (some ⟨bf, 0, none⟩)), recovered := false }] ∧ Bad bf w')
set_option maxRecDepth 100000 in
theorem try_any (f : Nat) (caps : Array Value) (hent : ∀ args w, (callFunc f args).run Tryz.prog w = .ok (.enter f args) w) (A : World → Prop) (Bad : Nat → World → Prop) (w : World) (hA : ∀ W W', A W → GX [w.heap.size] W W' → A W') (hB : ∀ bf W W', Bad bf W → GX [w.heap.size] W W' → Bad bf W')
    (h : Calls Tryz.prog f caps (w.alloc (.cells #[.nilIface] 27)) (TriedP w.heap.size A Bad)) : Calls Tryz.prog 42 #[.func (.func f) #[] caps] w (TryP A Bad) := by
  have H := Lib.hid h
  have HA := Lib.hid hA
  have HB := Lib.hid hB
  have hmf : ∀ (fn : Fn) (first cap : Array Value) (w : World), (Instr.makeFunc fn first cap).run Tryz.prog w = .ok (.func fn first cap) w := fun _ _ _ _ => rfl
  clear h hA hB
  go_enter_defers Tryz.func42, Tryz.ntmps42
  go_wp2_with fail
  refine H.out.mono ?_
  intro e w1 hU
  obtain ⟨hblk, hU⟩ := hU
  have HK := Lib.hid hblk
  have c0 : w1.cell? ⟨w.heap.size, 0, none⟩ = some .nilIface := by rw [cell_of_row _ _ _ _ _ _ hblk]; rfl
  have f0 := frozen_of_row w1 w.heap.size 0 _ _ hblk
  clear hblk H
  rcases hU with ⟨rfl, hA1⟩ | ⟨bf, rfl, hB1⟩
  · have HX : Hid (A (w1.setCell ⟨w.heap.size, 0, none⟩ .nilIface)) := Lib.hid (HA.out _ _ hA1 ((GX.refl _ w1).set (by simp) _ _))
    have c1 : (w1.setCell ⟨w.heap.size, 0, none⟩ .nilIface).cell? ⟨w.heap.size, 0, none⟩ = some .nilIface := by
      rw [cell_of_row _ _ _ _ _ _ (heap_setCell_any w1 w.heap.size 0 _ _ _ .nilIface HK.out)]; rfl
    clear hA1
    go_wp2_with fail
    refine leaves_cons (f := 57) (args := #[.pointer (some ⟨w.heap.size, 0, none⟩)]) (by simp) (by simp [go_sem]) ?_
    refine (catch_none _ _).mono ?_
    rintro e u' w'' ⟨rfl, rfl, rfl⟩
    simp [Leaves, settle, results, Tryz.results42, go_sem, c1]
    exact .inl ⟨rfl, HX.out⟩
  · have HX : Hid (Bad bf (w1.setCell ⟨w.heap.size, 0, none⟩ (.iface 32 (.pointer (some ⟨bf, 0, none⟩))))) := Lib.hid (HB.out _ _ _ hB1 ((GX.refl _ w1).set (by simp) _ _))
    have c1 : (w1.setCell ⟨w.heap.size, 0, none⟩ (.iface 32 (.pointer (some ⟨bf, 0, none⟩)))).cell? ⟨w.heap.size, 0, none⟩ = some (.iface 32 (.pointer (some ⟨bf, 0, none⟩))) := by
      rw [cell_of_row _ _ _ _ _ _ (heap_setCell_any w1 w.heap.size 0 _ _ _ _ HK.out)]; rfl
    clear hB1
    go_wp2_with fail
    refine leaves_cons (f := 57) (args := #[.pointer (some ⟨w.heap.size, 0, none⟩)]) (by simp) (by simp [go_sem]) ?_
    refine (catch_fault ⟨w.heap.size, 0, none⟩ .nilIface (some ⟨bf, 0, none⟩) [] w1 c0 f0).mono ?_
    rintro e u' w'' ⟨rfl, rfl, rfl⟩
    simp [Leaves, settle, results, Tryz.results42, go_sem, c1]
    exact .inr ⟨bf, rfl, HX.out⟩
end Go.Proofs.YtlhhiiemojhjdaaGreatDoor
