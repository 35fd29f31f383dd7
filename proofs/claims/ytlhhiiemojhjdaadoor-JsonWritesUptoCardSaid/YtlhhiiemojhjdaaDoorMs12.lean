/- Texts of this proof, laid into one: KdD, KdE, KdF, KdG, KeA, KeB. -/
import Derived.Test.YtlhhiiemojhjdaaDoorMs11
set_option linter.unusedVariables false
set_option linter.unusedSimpArgs false
namespace Go.Proofs.YtlhhiiemojhjdaaDoor
open Go Go.RowKit
def OkB (W : World) (ob : Nat) (b : Bool) : Prop := W.heap[ob]? = some (.cells #[.bool b] 4 (0, 0))
def NumC (t : Txt) (ob : Nat) (W0 : World) (e : Ending) (W : World) : Prop :=
  (e = .returned (.tuple #[]) ∧ OkB W ob (isNumL t) ∧ GX [ob] W0 W) ∨ ∃ bf, e = .panicked [{ v := .iface 76 (.pointer (some ⟨bf, 0, none⟩)), recovered := false }] ∧ OkB W ob false ∧ GX [ob] W0 W ∧ isNumL t = false
def NCl (jb : Nat) (t : Txt) (W : World) : Prop := W.cell? ⟨jb, 1, none⟩ = some (.string ⟨t.toArray⟩)
theorem num_is {t : Txt} {r : List UInt8} {q : Nat} (h : numR t = .ok () r) (hq : q ≤ t.length) (hd : t.drop q = r) : isNumL t = (sub t 0 q == t) := by
  unfold isNumL
  rw [h, ← hd]
  have e : sub t 0 q = t.take q := by simp [sub]
  rw [e]
  by_cases hl : q = t.length
  · subst hl; simp
  · have h1 : t.drop q ≠ [] := fun e => by
      have := congrArg List.length e
      simp at this; omega
    have h2 : t.take q ≠ t := fun e => by
      have := congrArg List.length e
      simp at this; omega
    have h3 : (t.take q == t) = false := by simpa using h2
    rw [h3]
    cases hx : t.drop q with
    | nil => exact absurd hx h1
    | cons _ _ => rfl
set_option maxRecDepth 100000 in
theorem numclo_any (t : Txt) (hl : t.length ≤ 1000000000) (jb ob : Nat) (W : World) (hs : W.cell? ⟨jb, 1, none⟩ = some (.string ⟨t.toArray⟩)) (ho : OkB W ob false) (hjo : jb ≠ ob) (hjb : jb < W.heap.size) :
    Calls Tryd.prog 66 #[.pointer (some ⟨jb, 0, none⟩), .pointer (some ⟨ob, 0, none⟩)] W (NumC t ob W) := by
  have hol := lt_of_heap ho
  have HO := Lib.hid ho
  clear ho
  go_enter Tryd.func66, Tryd.ntmps66
  go_upto_region 1 with (fail)
  obtain ⟨R, hRR⟩ : ∃ R, W.heap.size = R := ⟨_, rfl⟩
  obtain ⟨W1, hW1⟩ : ∃ W1, W.alloc (.cells #[.string ⟨t.toArray⟩, .int .i64 0] 82) = W1 := ⟨_, rfl⟩
  have hq1 : Q W W1 := by rw [← hW1]; exact (Q.refl W).alloc _
  have hr1 : RdB W1 R t 0 := by rw [← hW1, ← hRR]; exact heap_alloc_new W _
  rw [hW1, hRR]
  rw [hRR] at hol hjb
  have HQ1 := Lib.hid hq1
  have HR1 := Lib.hid hr1
  have HRR := Lib.hid hRR
  have hs1 := hq1.cell hs
  have HS1 : Hid (NCl jb t W1) := Lib.hid hs1
  have hnum := number_any R t 0 W1.drew (hr1.q (Q.refl W1).drew) (by omega) hl
  rw [List.drop_zero] at hnum
  obtain ⟨N, hN⟩ : ∃ N, numR t = N := ⟨_, rfl⟩
  have HN := Lib.hid hN
  rw [hN] at hnum
  have HNum := Lib.hid hnum
  clear hW1 hq1 hr1 hRR hnum hN hs hs1
  have k0 : ∀ m : SWA (NCl jb t), m.val.cell? ⟨jb, 1, none⟩ = some (.string ⟨t.toArray⟩) := fun m => m.property
  haveI hne : Nonempty (SWA (NCl jb t)) := ⟨⟨W1.drew, HS1.out⟩⟩
  refine wp_plan_A (NCl jb t) HS1.out [([0, 2, 3], [1]), ([4], [5])] (by kernel_rfl) (by kernel_rfl) (fun c a d v w h => by cases d <;> exact h) ?_
  simp only [wpPlan, wpListK, List.map_cons, List.map_nil, Array.getD_eq_getD_getElem?, List.getElem?_toArray, List.getElem?_cons_succ, List.getElem?_cons_zero, Option.getD_some, Act.put, List.setIfInBounds_toArray, List.set_cons_succ, List.set_cons_zero]
  (repeat (go_big_quiet_step (fail)))
  refine wpQuiet_nil ?_
  intro K hK
  clear hne k0
  go_wp2_with fail
  refine HNum.out.mono ?_
  intro e w2 hU
  have HU := Lib.hid hU
  clear hU HNum
  have HG0 : Hid (∀ W', GX [R] W1.drew W' → GX [ob] W W' ∧ OkB W' ob false ∧ NCl jb t W') := Lib.hid (fun W' h => by
    have hR := HRR.out
    refine ⟨((GX.q HQ1.out).drew).sub h (fun k hk => by simp at hk; right; omega), h.heap (by simp; omega) (HQ1.out.drew.block HO.out), h.cellJ (p := ⟨jb, 1, none⟩) (by simp; omega) HS1.out⟩)
  rcases N with ⟨x, r⟩ | ⟨c, n⟩
  · obtain ⟨⟨q, m1, m2, m3, m4, rfl⟩, hg⟩ := HU.out
    obtain ⟨g1, g2, g3⟩ := HG0.out _ hg
    have HI := Lib.hid (num_is HN.out m2 m3)
    have HG1 := Lib.hid g1
    have HO2 := Lib.hid g2
    have hS2 := g3
    clear m1 m2 m3 m4 hg g1 g2 g3 HU HG0
    go_wp2_with fail
    refine hK.out _ _ ⟨⟨w2, hS2⟩, rfl⟩ ?_
    clear hK K
    haveI hne : Nonempty (SWA (NCl jb t)) := ⟨⟨w2, hS2⟩⟩
    (repeat (go_big_quiet_step (fail)))
    refine wpQuiet_nil ?_
    intro K hK
    have cb : w2.cell? ⟨ob, 0, none⟩ = some (.bool false) := by rw [cell_of_row _ _ _ _ _ _ HO2.out]; rfl
    have fb := frozen_of_row w2 ob 0 _ _ HO2.out
    clear hne
    have hS3 : ∀ v, NCl jb t (w2.setCell ⟨ob, 0, none⟩ v) := fun v => by
      unfold NCl at hS2 ⊢
      rw [World.cell?_setCell_other _ _ _ _ (by simp)]; exact hS2
    have HX : Hid (NumC t ob W (.returned (.tuple #[])) (w2.setCell ⟨ob, 0, none⟩ (.bool (sub t 0 q == t)))) := Lib.hid (by
      left
      refine ⟨rfl, ?_, HG1.out.set (by simp) _ _⟩
      rw [HI.out]
      unfold OkB
      rw [heap_setCell_any _ ob 0 _ _ _ _ HO2.out]; rfl)
    go_wp2_with fail
    refine hK.out _ _ ⟨⟨_, hS3 _⟩, rfl⟩ ?_
    clear hK K
    go_end0
    exact HX.out
  · obtain ⟨⟨bf, rfl, hf⟩, hg⟩ := HU.out
    obtain ⟨g1, g2, g3⟩ := HG0.out _ hg
    have HX : Hid (NumC t ob W (.panicked [{ v := .iface 76 (.pointer (some ⟨bf, 0, none⟩)), recovered := false }]) w2) := Lib.hid (.inr ⟨bf, rfl, g2, g1, by unfold isNumL; rw [HN.out]⟩)
    clear hf hg g1 g2 g3 HU HG0
    go_wp2_with fail
    exact ⟨rfl, HX.out⟩
end Go.Proofs.YtlhhiiemojhjdaaDoor
set_option linter.unusedVariables false
set_option linter.unusedSimpArgs false
namespace Go.Proofs.YtlhhiiemojhjdaaDoor
open Go Go.RowKit
def ValW (B b : Nat) (f : Txt) (j : JsonD) (w : World) (e : Ending) (w' : World) : Prop := e = .returned (.bool (numJ j)) ∧ KW B b w w' ∧ (numJ j = true → WR B b (f ++ writeJ j) w')
structure ToW (B b : Nat) (f : Txt) (j : JsonD) (d : Nat) (w0 w : World) (vn vk : Value) : Prop where
  wr : WR B b f w
  q : Q w0 w
  lo : w0.heap.size ≤ b
  hi : b < B
  sz : B ≤ w.heap.size
  jv : JV w0 j vn vk
  wf : wfJ j d = true
  cnt : cntJ j ≤ 8000
  big : bigJ 1100000 j
theorem wf_kind {k : Int} {t : Txt} {ns : List Txt} {ks : List JsonD} {d : Nat} (h : wfJ (.mk k t ns ks) d = true) : k = 1 ∨ k = 2 ∨ k = 3 ∨ k = 4 ∨ k = 5 ∨ k = 6 ∨ k = 7 := by
  rw [wfJ] at h
  by_cases h1 : k = 1 ∨ k = 2 ∨ k = 3
  · omega
  · rw [if_neg h1] at h
    by_cases h4 : k = 4
    · omega
    · rw [if_neg h4] at h
      by_cases h5 : k = 5
      · omega
      · rw [if_neg h5] at h
        by_cases h6 : k = 6
        · omega
        · rw [if_neg h6] at h
          by_cases h7 : k = 7
          · omega
          · rw [if_neg h7] at h; cases h
theorem wf_leaf {k : Int} {t : Txt} {ns : List Txt} {ks : List JsonD} {d : Nat} (h : wfJ (.mk k t ns ks) d = true) (hk : k ≠ 6 ∧ k ≠ 7) : ks = [] := by
  have hk1 := wf_kind h
  rw [wfJ] at h
  by_cases h1 : k = 1 ∨ k = 2 ∨ k = 3
  · rw [if_pos h1] at h
    simp only [Bool.and_eq_true, List.isEmpty_iff] at h
    exact h.2
  · rw [if_neg h1] at h
    by_cases h4 : k = 4
    · rw [if_pos h4] at h
      simp only [Bool.and_eq_true, List.isEmpty_iff] at h
      exact h.2
    · rw [if_neg h4] at h
      by_cases h5 : k = 5
      · rw [if_pos h5] at h
        simp only [Bool.and_eq_true, List.isEmpty_iff] at h
        exact h.1.2
      · omega
theorem num_leaf {k : Int} {t : Txt} {ns : List Txt} (hk : k ≠ 4) : numJ (.mk k t ns []) = true := by
  rw [numJ, numKs]
  simp [hk]
theorem num_four {t : Txt} {ns : List Txt} : numJ (.mk 4 t ns []) = isNumL t := by
  rw [numJ, numKs]
  simp
set_option maxRecDepth 100000 in
theorem value_leaf (B b : Nat) (f : Txt) (k : Int) (t : Txt) (ns : List Txt) (ks : List JsonD) (d : Nat) (w0 w : World) (vn vk : Value) (h : ToW B b f (.mk k t ns ks) d w0 w vn vk) (hk : k ≠ 6 ∧ k ≠ 7) :
    Calls Tryd.prog 41 #[.pointer (some ⟨b, 0, none⟩), .agg (cellJ (.mk k t ns ks) vn vk).toArray] w (ValW B b f (.mk k t ns ks) w) := by
  have hks := wf_leaf h.wf hk
  have hkk := wf_kind h.wf
  subst hks
  obtain ⟨⟨A1, n1, c1n, rfl⟩, A2, n2, c2n, rfl⟩ := jv_slices h.jv
  have H := Lib.hid h
  have hlt : t.length ≤ 1100000 := by have := h.big; rw [bigJ] at this; exact this.1
  clear h
  go_enter Tryd.func41, Tryd.ntmps41
  go_upto_region 1 with (fail)
  obtain ⟨J, hJ⟩ : ∃ J, w.heap.size = J := ⟨_, rfl⟩
  have e1 := heap_alloc_new w (.cells (cellJ (.mk k t ns []) (.slice A1 n1 c1n) (.slice A2 n2 c2n)).toArray 40)
  obtain ⟨W1, hW1⟩ : ∃ W1, w.alloc (.cells (cellJ (.mk k t ns []) (.slice A1 n1 c1n) (.slice A2 n2 c2n)).toArray 40) = W1 := ⟨_, rfl⟩
  have q1 : Q w W1 := by rw [← hW1]; exact (Q.refl w).alloc _
  rw [hW1, hJ] at e1
  rw [hW1, hJ]
  have HE1 := Lib.hid e1
  have HQ1 := Lib.hid q1
  have HJ := Lib.hid hJ
  have HWR := Lib.hid (H.out.wr.q q1)
  have HSz : Hid (B ≤ W1.heap.size) := Lib.hid (Nat.le_trans H.out.sz q1.size)
  have x0 : W1.cell? ⟨J, 0, none⟩ = some (.int .i64 k) := by rw [cell_of_row _ _ _ _ _ _ HE1.out]; rfl
  clear e1 q1 hJ hW1
  have HT : Hid (∀ W2, Q W1 W2 → KW B b w W2) := Lib.hid (fun W2 h => KW.q (HQ1.out.trans h))
  have HFin : Hid (∀ (e : Ending) (w2 : World) (s : Txt), writeJ (.mk k t ns []) = s → numJ (.mk k t ns []) = true → PutP B b (f ++ s) W1 e w2 → e = .returned (.tuple #[]) ∧ ValW B b f (.mk k t ns []) w (.returned (.bool true)) w2) := Lib.hid (fun e w2 s h1 h2 h3 => by
    obtain ⟨h3, h4, h5⟩ := h3
    exact ⟨h3, by rw [h2], (HT.out W1 (Q.refl W1)).trans h5, fun _ => by rw [h1]; exact h4⟩)
  rcases hkk with rfl | rfl | rfl | rfl | rfl | rfl | rfl
  rotate_left 3
  · have x1 : W1.cell? ⟨J, 1, none⟩ = some (.string ⟨t.toArray⟩) := by rw [cell_of_row _ _ _ _ _ _ HE1.out]; rfl
    go_upto_region 26 with (fail)
    have e2 := heap_alloc_new W1 (.cells #[.bool false] 4)
    have q2 : Q W1 (W1.alloc (.cells #[.bool false] 4)) := (Q.refl W1).alloc _
    have s2 : (W1.alloc (.cells #[.bool false] 4)).heap.size = W1.heap.size + 1 := by simp
    obtain ⟨W2, hW2⟩ : ∃ W2, W1.alloc (.cells #[.bool false] 4) = W2 := ⟨_, rfl⟩
    obtain ⟨O, hO⟩ : ∃ O, W1.heap.size = O := ⟨_, rfl⟩
    rw [hW2, hO] at e2
    rw [hW2] at q2 s2
    rw [hW2, hO]
    have hJO : J < O := by rw [← hO]; exact lt_of_heap HE1.out
    have HO := Lib.hid hO
    have HO2 : Hid (OkB W2 O false) := Lib.hid e2
    have HQ2 := Lib.hid q2
    have HS2 := Lib.hid (s2.trans (by rw [hO]))
    have hnc := numclo_any t (by omega) J O (W2.alloc (.cells #[.nilIface] 32)) ((q2.alloc _).cell x1) (((Q.refl W2).alloc _).block e2) (by omega) (by simp; rw [s2, hO]; omega)
    have hnl : (W2.alloc (.cells #[.nilIface] 32)).heap[W2.heap.size]? = some (.cells #[.nilIface] 32 (0, 0)) := heap_alloc_new W2 _
    have htr : Calls Tryd.prog 66 #[.pointer (some ⟨J, 0, none⟩), .pointer (some ⟨O, 0, none⟩)] (W2.alloc (.cells #[.nilIface] 32)) (TriedP W2.heap.size (fun W => OkB W O (isNumL t) ∧ GX [O] W2 W) (fun bf W => OkB W O false ∧ GX [O] W2 W ∧ isNumL t = false)) := by
      refine hnc.mono ?_
      rintro e W' (⟨rfl, h1, h2⟩ | ⟨bf, rfl, h1, h2, h3⟩)
      · exact ⟨h2.heap (by simp; rw [s2, hO]; omega) hnl, .inl ⟨rfl, h1, (GX.q ((Q.refl W2).alloc _)).trans h2⟩⟩
      · exact ⟨h2.heap (by simp; rw [s2, hO]; omega) hnl, .inr ⟨bf, rfl, h1, (GX.q ((Q.refl W2).alloc _)).trans h2, h3⟩⟩
    have HTr := Lib.hid htr
    clear hW2 e2 q2 s2 hnc hnl htr hO x0
    have HTry := Lib.hid (try_any 66 #[.pointer (some ⟨J, 0, none⟩), .pointer (some ⟨O, 0, none⟩)] (enters_of Tryd.func66 (by kernel_rfl) rfl) _ _ W2 (fun X Y h hg => ⟨hg.heap (by simp; rw [HS2.out]; omega) h.1, h.2.sub hg (fun k hk => by simp at hk; right; omega)⟩) (fun bf X Y h hg => ⟨hg.heap (by simp; rw [HS2.out]; omega) h.1, h.2.1.sub hg (fun k hk => by simp at hk; right; omega), h.2.2⟩) HTr.out)
    go_wp2_with fail
    refine HTry.out.mono ?_
    intro e W3 hT
    have hcase : ∃ v, e = .returned v ∧ ((v = .nilIface ∧ OkB W3 O (isNumL t)) ∨ ((∃ bf, v = .iface 76 (.pointer (some ⟨bf, 0, none⟩))) ∧ OkB W3 O false ∧ isNumL t = false)) ∧ GX [O] W2 W3 := by
      rcases hT with ⟨rfl, h1, h2⟩ | ⟨bf, rfl, h1, h2, h3⟩
      · exact ⟨_, rfl, .inl ⟨rfl, h1⟩, h2⟩
      · exact ⟨_, rfl, .inr ⟨⟨bf, rfl⟩, h1, h3⟩, h2⟩
    obtain ⟨ev, rfl, hcs, hg⟩ := hcase
    have HG := Lib.hid hg
    have HWR3 : Hid (WR B b f W3) := Lib.hid (by
      obtain ⟨l, h1, h2, h3⟩ := HWR.out.q HQ2.out
      refine ⟨l, h1.grown (row := some O) ⟨hg.os, hg.tape, hg.output, hg.size, fun k hk hn => hg.block k hk (by simpa using fun e : k = O => hn (by rw [e]))⟩ ?_, h2, h3⟩
      rintro r o e ho
      injection e with e
      subst e
      refine ⟨fun c fz e2 => ?_, by have := H.out.hi; have := H.out.sz; have := HQ1.out.size; have := HO.out; omega⟩
      have h4 : W2.heap[O]? = _ := HO2.out
      rw [ho] at h4
      injection h4 with h4
      rw [h4] at e2
      injection e2 with _ e2 _
      exact absurd e2 (by decide))
    have HQ3 : Hid (Q w W3) := Lib.hid (hg.toQ (HQ1.out.trans HQ2.out) (fun k hk => by simp at hk; have := HQ1.out.size; have := HO.out; omega))
    have HCs := Lib.hid hcs
    have x1 : W3.cell? ⟨J, 1, none⟩ = some (.string ⟨t.toArray⟩) := hg.cellJ (by simp; omega) (HQ2.out.cell x1)
    have HP := Lib.hid (put_any B b f t W3 HWR3.out (Nat.le_trans H.out.sz HQ3.out.size) hlt)
    clear hT hcs hg HTry HTr
    go_upto_region 27 with (fail)
    go_wp2_with fail
    refine HP.out.mono ?_
    rintro e W4 ⟨rfl, hw4, hk4⟩
    have HO4 : Hid (∀ c, OkB W3 O c → OkB W4 O c) := Lib.hid (fun c h => hk4.block O _ h (by have := H.out.hi; have := H.out.sz; have := HQ1.out.size; have := HO.out; omega) (.inr fun c fz e => by injection e with _ e _; exact absurd e (by decide)))
    have HX : Hid (ValW B b f (.mk 4 t ns []) w (.returned (.bool (isNumL t))) W4) := Lib.hid ⟨by rw [num_four], (KW.q HQ3.out).trans hk4, fun _ => by rw [writeJ]; exact hw4⟩
    clear hw4 hk4 x1
    rcases HCs.out with ⟨rfl, hc⟩ | ⟨⟨bf, rfl⟩, hc, hn⟩
    · have hc4 := HO4.out _ hc
      obtain ⟨c, hcc⟩ : ∃ c, isNumL t = c := ⟨_, rfl⟩
      rw [hcc] at HX hc4
      have y0 : W4.cell? ⟨O, 0, none⟩ = some (.bool c) := by rw [cell_of_row _ _ _ _ _ _ hc4]; rfl
      clear hc hc4 hcc
      cases c with
      | false =>
        go_wp2_with fail
        go_ret
        exact HX.out
      | true =>
        go_wp2_with fail
        go_ret
        exact HX.out
    · have hc4 := HO4.out _ hc
      have y0 : W4.cell? ⟨O, 0, none⟩ = some (.bool false) := by rw [cell_of_row _ _ _ _ _ _ hc4]; rfl
      rw [hn] at HX
      clear hc hc4 hn
      go_wp2_with fail
      go_ret
      exact HX.out
  · have HP := Lib.hid (qtext_any B b f t W1 HWR.out HSz.out (by omega))
    have HF := Lib.hid (fun e w2 => HFin.out e w2 (quoteJ t) (by rw [writeJ]; rfl) (num_leaf (by decide)))
    have x1 : W1.cell? ⟨J, 1, none⟩ = some (.string ⟨t.toArray⟩) := by rw [cell_of_row _ _ _ _ _ _ HE1.out]; rfl
    go_wp2_with fail
    refine HP.out.mono ?_
    intro e w2 hp
    obtain ⟨rfl, hx⟩ := HF.out e w2 hp
    have HX := Lib.hid hx
    clear hx hp x0 x1
    go_wp2_with fail
    go_ret
    exact HX.out
  · exact absurd rfl hk.1
  · exact absurd rfl hk.2
  · have HP := Lib.hid (put_any B b f [110, 117, 108, 108] W1 HWR.out HSz.out (by simp))
    have HF := Lib.hid (fun e w2 => HFin.out e w2 [110, 117, 108, 108] (by rw [writeJ]; rfl) (num_leaf (by decide)))
    go_wp2_with fail
    refine HP.out.mono ?_
    intro e w2 hp
    obtain ⟨rfl, hx⟩ := HF.out e w2 hp
    have HX := Lib.hid hx
    clear hx hp x0
    go_wp2_with fail
    go_ret
    exact HX.out
  · have HP := Lib.hid (put_any B b f [102, 97, 108, 115, 101] W1 HWR.out HSz.out (by simp))
    have HF := Lib.hid (fun e w2 => HFin.out e w2 [102, 97, 108, 115, 101] (by rw [writeJ]; rfl) (num_leaf (by decide)))
    go_wp2_with fail
    refine HP.out.mono ?_
    intro e w2 hp
    obtain ⟨rfl, hx⟩ := HF.out e w2 hp
    have HX := Lib.hid hx
    clear hx hp x0
    go_wp2_with fail
    go_ret
    exact HX.out
  · have HP := Lib.hid (put_any B b f [116, 114, 117, 101] W1 HWR.out HSz.out (by simp))
    have HF := Lib.hid (fun e w2 => HFin.out e w2 [116, 114, 117, 101] (by rw [writeJ]; rfl) (num_leaf (by decide)))
    go_wp2_with fail
    refine HP.out.mono ?_
    intro e w2 hp
    obtain ⟨rfl, hx⟩ := HF.out e w2 hp
    have HX := Lib.hid hx
    clear hx hp x0
    go_wp2_with fail
    go_ret
    exact HX.out
end Go.Proofs.YtlhhiiemojhjdaaDoor
set_option linter.unusedVariables false
set_option linter.unusedSimpArgs false
namespace Go.Proofs.YtlhhiiemojhjdaaDoor
open Go Go.RowKit
theorem writeKs_snoc (j : JsonD) : ∀ (a : List JsonD) (first : Bool), writeKs (a ++ [j]) first = writeKs a first ++ (commaJ (first && a.isEmpty) ++ writeJ j)
  | [], first => by simp [writeKs]
  | x :: r, first => by
    rw [List.cons_append, writeKs, writeKs, writeKs_snoc j r false]
    simp
theorem writePs_snoc (j : JsonD) : ∀ (a : List JsonD) (ns : List Txt) (first : Bool), writePs (a ++ [j]) ns first = writePs a ns first ++ (commaJ (first && a.isEmpty) ++ (quoteJ (gL ns a.length) ++ 58 :: writeJ j))
  | [], ns, first => by cases ns <;> simp [writePs, gL, List.getD]
  | x :: r, ns, first => by
    have e : gL ns.tail r.length = gL ns (x :: r).length := by cases ns <;> simp [gL, List.getD]
    rw [List.cons_append, writePs, writePs, writePs_snoc j r ns.tail false, e]
    simp
def partW (k : Int) (ns : List Txt) (ks : List JsonD) (i : Nat) : Txt := if k = 7 then 123 :: writePs (ks.take i) ns true else 91 :: writeKs (ks.take i) true
def nameW (k : Int) (ns : List Txt) (i : Nat) : Txt := if k = 7 then quoteJ (gL ns i) ++ [58] else []
theorem partW_next (k : Int) (ns : List Txt) (ks : List JsonD) (i : Nat) (hi : i < ks.length) : partW k ns ks (i + 1) = partW k ns ks i ++ (commaJ (i == 0) ++ (nameW k ns i ++ writeJ (gK ks i))) := by
  have e : (ks.take i).isEmpty = (i == 0) := by
    cases i with
    | zero => rfl
    | succ m => cases ks with
      | nil => cases hi
      | cons x r => rfl
  have el : (ks.take i).length = i := by rw [List.length_take]; omega
  unfold partW nameW
  rw [gK_take ks i hi]
  by_cases hk : k = 7
  · rw [if_pos hk, if_pos hk, if_pos hk, writePs_snoc, e, el]; simp
  · rw [if_neg hk, if_neg hk, if_neg hk, writeKs_snoc, e]; simp
theorem numKs_take (ks : List JsonD) (i : Nat) (hi : i < ks.length) : numKs (ks.take (i + 1)) = (numKs (ks.take i) && numJ (gK ks i)) := by
  rw [gK_take ks i hi, numKs_app, numKs, numKs]; simp
theorem numKs_bad {ks : List JsonD} {i : Nat} (hi : i < ks.length) (h : numJ (gK ks i) = false) : numKs ks = false := by
  have e : ks = ks.take i ++ gK ks i :: ks.drop (i + 1) := by
    rw [← gK_dropJ ks i hi, List.take_append_drop]
  rw [e, numKs_app, numKs, h]; simp
theorem big_kid {N : Nat} {k : Int} {t : Txt} {ns : List Txt} {ks : List JsonD} (h : bigJ N (.mk k t ns ks)) {i : Nat} (hi : i < ks.length) : bigJ N (gK ks i) := by
  rw [bigJ] at h
  rw [gK_get ks i hi]
  exact (bigKs_iff N ks).1 h.2.2 _ (List.getElem_mem hi)
theorem big_name {k : Int} {t : Txt} {ns : List Txt} {ks : List JsonD} (h : bigJ 1100000 (.mk k t ns ks)) (i : Nat) : (gL ns i).length ≤ 9223372036854775807 := by
  rw [bigJ] at h
  by_cases hi : i < ns.length
  · have := h.2.1 (gL ns i) (by simp [gL, List.getD, hi])
    omega
  · have e : gL ns i = [] := by simp [gL, List.getD, Nat.le_of_not_lt hi]
    rw [e]; simp
def KdI (B b : Nat) (f : Txt) (k : Int) (ns : List Txt) (ks : List JsonD) (W1 : World) (i : Nat) (W : World) : Prop := WR B b (f ++ partW k ns ks i) W ∧ KW B b W1 W ∧ numKs (ks.take i) = true
def KidsW (B b : Nat) (ks : List JsonD) (w0 : World) : Prop := ∀ i, i < ks.length → ∀ (f : Txt) (d : Nat) (W : World) (vn vk : Value), ToW B b f (gK ks i) d w0 W vn vk → Calls Tryd.prog 41 #[.pointer (some ⟨b, 0, none⟩), .agg (cellJ (gK ks i) vn vk).toArray] W (ValW B b f (gK ks i) W)
theorem kdDone {B b : Nat} {f : Txt} {k : Int} {t : Txt} {ns : List Txt} {ks : List JsonD} {w W1 W W' : World} {e : Ending} (hk : k = 6 ∨ k = 7) (hq : Q w W1) (h : KdI B b f k ns ks W1 ks.length W) (c : UInt8) (hc : c = if k = 7 then 125 else 93) (hp : PutP B b ((f ++ partW k ns ks ks.length) ++ [c]) W e W') :
    e = .returned (.tuple #[]) ∧ ValW B b f (.mk k t ns ks) w (.returned (.bool true)) W' := by
  subst hc
  obtain ⟨h1, h2, h3⟩ := h
  rw [List.take_length] at h3
  obtain ⟨p1, p2, p3⟩ := hp
  have hn : numJ (.mk k t ns ks) = true := by
    rw [numJ, h3]
    simp; omega
  refine ⟨p1, by rw [hn], ((KW.q hq).trans h2).trans p3, fun _ => ?_⟩
  have e : writeJ (.mk k t ns ks) = partW k ns ks ks.length ++ [if k = 7 then 125 else 93] := by
    rw [writeJ]
    unfold partW
    rw [List.take_length]
    rcases hk with rfl | rfl
    · simp
    · simp
  rw [e, ← List.append_assoc]
  exact p2
theorem kdStop {B b : Nat} {f : Txt} {k : Int} {t : Txt} {ns : List Txt} {ks : List JsonD} {w W1 W : World} {i : Nat} (hq : Q w W1) (h : KW B b W1 W) (hi : i < ks.length) (hn : numJ (gK ks i) = false) : ValW B b f (.mk k t ns ks) w (.returned (.bool false)) W := by
  have e : numJ (.mk k t ns ks) = false := by rw [numJ, numKs_bad hi hn]; simp
  exact ⟨by rw [e], (KW.q hq).trans h, fun h => by rw [e] at h; cases h⟩
theorem kdNext {B b : Nat} {f : Txt} {k : Int} {ns : List Txt} {ks : List JsonD} {W1 W W' : World} {i : Nat} (h : KdI B b f k ns ks W1 i W) (hi : i < ks.length) (hn : numJ (gK ks i) = true) (hk : KW B b W W') (hw : WR B b (((f ++ partW k ns ks i) ++ commaJ (i == 0)) ++ nameW k ns i ++ writeJ (gK ks i)) W') : KdI B b f k ns ks W1 (i + 1) W' := by
  refine ⟨?_, h.2.1.trans hk, by rw [numKs_take ks i hi, h.2.2, hn]; rfl⟩
  rw [partW_next k ns ks i hi]
  simpa using hw
theorem kdStart {B b : Nat} {f : Txt} {k : Int} {ns : List Txt} {ks : List JsonD} {W1 W : World} {e : Ending} (c : UInt8) (hc : c = if k = 7 then 123 else 91) (hp : PutP B b (f ++ [c]) W1 e W) : e = .returned (.tuple #[]) ∧ KdI B b f k ns ks W1 0 W := by
  subst hc
  obtain ⟨p1, p2, p3⟩ := hp
  refine ⟨p1, ?_, p3, by rw [List.take_zero, numKs]⟩
  unfold partW
  rw [List.take_zero, writeKs, writePs]
  by_cases hk : k = 7
  · rw [if_pos hk] at p2 ⊢; exact p2
  · rw [if_neg hk] at p2 ⊢; exact p2
set_option maxRecDepth 100000 in
theorem value_kids6 (B b : Nat) (f : Txt) (t : Txt) (ns : List Txt) (ks : List JsonD) (d : Nat) (w0 w : World) (vn vk : Value) (h : ToW B b f (.mk 6 t ns ks) d w0 w vn vk) (IH : KidsW B b ks w0) :
    Calls Tryd.prog 41 #[.pointer (some ⟨b, 0, none⟩), .agg (cellJ (.mk 6 t ns ks) vn vk).toArray] w (ValW B b f (.mk 6 t ns ks) w) := by
  have hcl := cnt_len ks
  have hcn := h.cnt
  rw [cntJ] at hcn
  have hkl : ks.length ≤ 8000 := by omega
  have hkid := h.jv.kidAt
  have hns : NsV w0 vn ns := by have := h.jv; rw [JV] at this; exact this.1
  obtain ⟨A2, c2n, rfl, hc1, hc2, hkd⟩ := hkid
  obtain ⟨A1, c1n, rfl, hn1, hn2, hn3⟩ := hns.at
  have HN3 := Lib.hid hn3
  have HKd := Lib.hid hkd
  have H := Lib.hid h
  have HIH := Lib.hid IH
  have HWf := Lib.hid (fun i (hi : i < ks.length) => wf_kid h.wf hi)
  have HCnt : Hid (∀ i, i < ks.length → cntJ (gK ks i) ≤ 8000) := Lib.hid (fun i hi => by have := cnt_gK hi; omega)
  have HNl : Hid (∀ i, (gL ns i).length ≤ 9223372036854775807) := Lib.hid (fun i => big_name h.big i)
  clear h hn3 hkd hns IH hcl hcn
  go_enter Tryd.func41, Tryd.ntmps41
  go_upto_region 1 with (fail)
  obtain ⟨J, hJ⟩ : ∃ J, w.heap.size = J := ⟨_, rfl⟩
  have e1 := heap_alloc_new w (.cells (cellJ (.mk 6 t ns ks) (.slice A1 ns.length c1n) (.slice A2 ks.length c2n)).toArray 40)
  obtain ⟨W1, hW1⟩ : ∃ W1, w.alloc (.cells (cellJ (.mk 6 t ns ks) (.slice A1 ns.length c1n) (.slice A2 ks.length c2n)).toArray 40) = W1 := ⟨_, rfl⟩
  have q1 : Q w W1 := by rw [← hW1]; exact (Q.refl w).alloc _
  rw [hW1, hJ] at e1
  rw [hW1, hJ]
  have HE1 := Lib.hid e1
  have HQ1 := Lib.hid q1
  have HJ := Lib.hid hJ
  have HWR := Lib.hid (H.out.wr.q q1)
  have HBase : Hid (∀ W, KW B b W1 W → Q w0 W ∧ B ≤ W.heap.size ∧ W.heap[J]? = some (.cells (cellJ (.mk 6 t ns ks) (.slice A1 ns.length c1n) (.slice A2 ks.length c2n)).toArray 40 (0, 0))) := Lib.hid (fun W hk =>
    ⟨((KW.q HQ1.out).trans hk).toQ H.out.q H.out.lo (by have := H.out.lo; have := H.out.hi; omega), by have := H.out.sz; have := HQ1.out.size; have := hk.size; omega, hk.block J _ HE1.out (by have := H.out.hi; have := H.out.sz; have := HJ.out; omega) (.inr fun c fz e => by injection e with _ e _; exact absurd e (by decide))⟩)
  have x0 : W1.cell? ⟨J, 0, none⟩ = some (.int .i64 6) := by rw [cell_of_row _ _ _ _ _ _ HE1.out]; rfl
  have HP0 := Lib.hid (put_any B b f [91] W1 HWR.out (HBase.out W1 (KW.refl _ _ _)).2.1 (by simp))
  clear e1 q1 hJ hW1
  go_wp2_with fail
  refine (put_as HP0.out (by rfl)).mono ?_
  intro e w2 hp
  obtain ⟨rfl, hi0⟩ := kdStart (k := 6) (ns := ns) (ks := ks) 91 (by decide) hp
  have HI0 := Lib.hid hi0
  have x3 : w2.cell? ⟨J, 3, none⟩ = some (.slice A2 ks.length c2n) := by rw [cell_of_row _ _ _ _ _ _ (HBase.out w2 HI0.out.2.1).2.2]; rfl
  clear hp hi0 x0
  go_upto_region 7 with (fail)
  clear x3
  go_loopw [22] (fun i wx => ∃ n : Nat, n ≤ ks.length ∧ i = .int .i64 n ∧ Hid (KdI B b f 6 ns ks W1 n wx)) (fun i _ => ks.length - (intOf i).toNat)
  case atStart => exact ⟨0, Nat.zero_le _, rfl, HI0⟩
  case round =>
    obtain ⟨i, hil, rfl, HI⟩ := hrel
    rename World => wa
    by_cases hlt : i < ks.length
    · have hd : decide (i < ks.length) = true := by simpa using hlt
      obtain ⟨g, off, un, uk, hA⟩ := HKd.out i hlt
      obtain rfl := hA.a
      have HB1 := Lib.hid (HBase.out wa HI.out.2.1)
      have HA := Lib.hid (hA.q HB1.out.1)
      have HJv := Lib.hid hA.jv
      have HRg := Lib.hid HA.out.rg
      have HIn := Lib.hid (info_sz (gK ks i) un uk)
      have HOne := Lib.hid (cellJ_one (j := gK ks i) (jv_slices hA.jv).1 (jv_slices hA.jv).2)
      clear hA
      go_upto_region 8 with (fail)
      iterate 7 go_step
      refine wpList_load_mid rfl 40 (.tmp 25) rfl g (off + i * 4) rfl (cellJ (gK ks i) un uk) _ HRg.out Tryd.underlying40 rfl HIn.out ?_
      simp only [Act.put, List.setIfInBounds_toArray, List.set_cons_succ, List.set_cons_zero]
      go_upto_region 9 with (refine wpList_store_row rfl 40 (.tmp 9) (.tmp 26) rfl wa.heap.size (cellJ (gK ks i) un uk).toArray rfl rfl 40 _ (heap_alloc_new wa _) HIn.out rfl HOne.out ?_)
      simp only [Act.put]
      have HB3 : Hid (((wa.alloc (.cells #[.int .i64 0, .string ⟨#[]⟩, .slice none 0 0, .slice none 0 0] 40)).setRow wa.heap.size (cellJ (gK ks i) un uk).toArray).heap[wa.heap.size]? = some (.cells (cellJ (gK ks i) un uk).toArray 40 (0, 0))) := Lib.hid (setRow_at (heap_alloc_new wa _) _)
      have HQ3 : Hid (Q wa ((wa.alloc (.cells #[.int .i64 0, .string ⟨#[]⟩, .slice none 0 0, .slice none 0 0] 40)).setRow wa.heap.size (cellJ (gK ks i) un uk).toArray)) := Lib.hid (((Q.refl wa).alloc _).setRow (Nat.le_refl _) _)
      obtain ⟨N3, hN3⟩ : ∃ N3, wa.heap.size = N3 := ⟨_, rfl⟩
      obtain ⟨W5, hW5⟩ : ∃ W5, (wa.alloc (.cells #[.int .i64 0, .string ⟨#[]⟩, .slice none 0 0, .slice none 0 0] 40)).setRow N3 (cellJ (gK ks i) un uk).toArray = W5 := ⟨_, rfl⟩
      rw [hN3, hW5] at HB3 HQ3
      rw [hN3, hW5]
      have HNb : Hid (N3 ≠ b) := Lib.hid (by have := H.out.hi; have := HB1.out.2.1; omega)
      clear hN3 hW5
      have HKid : Hid (∀ W, KW B b W5 W → W.heap[N3]? = some (.cells (cellJ (gK ks i) un uk).toArray 40 (0, 0))) := Lib.hid (fun W hk => hk.block N3 _ HB3.out HNb.out (.inr fun c fz e => by injection e with _ e _; exact absurd e (by decide)))
      have HW5 : Hid (WR B b (f ++ partW 6 ns ks i) W5) := Lib.hid (HI.out.1.q HQ3.out)
      have HK5 : Hid (KW B b wa W5) := Lib.hid (KW.q HQ3.out)
      by_cases h0 : i = 0
      · have hz : decide (0 < i) = false := by simp; omega
        have hc0 : (i == 0) = true := by simpa using h0
        have HW6 : Hid (WR B b ((f ++ partW 6 ns ks i) ++ commaJ (i == 0)) W5) := Lib.hid (by rw [hc0]; have := HW5.out; simpa [commaJ] using this)
        have HK6 : Hid (KW B b W5 W5) := Lib.hid (KW.refl _ _ _)
        have x0 : W5.cell? ⟨J, 0, none⟩ = some (.int .i64 6) := by rw [cell_of_row _ _ _ _ _ _ (HBase.out W5 (HI.out.2.1.trans HK5.out)).2.2]; rfl
        clear hc0 h0
        have HW8 : Hid (WR B b (((f ++ partW 6 ns ks i) ++ commaJ ((i : Nat) == 0)) ++ nameW 6 ns i) W5) := Lib.hid (by have := HW6.out; simpa [nameW] using this)
        have HK8 : Hid (KW B b W5 W5) := Lib.hid (KW.refl _ _ _)
        have HKA : Hid (KW B b W5 W5) := Lib.hid (HK6.out.trans HK8.out)
        have HKB : Hid (KW B b W1 W5) := Lib.hid ((HI.out.2.1.trans HK5.out).trans HKA.out)
        have HTo := Lib.hid (HIH.out i hlt _ _ W5 un uk ⟨HW8.out, (HBase.out W5 HKB.out).1, H.out.lo, H.out.hi, (HBase.out W5 HKB.out).2.1, HJv.out, (HWf.out i hlt).choose_spec, HCnt.out i hlt, big_kid H.out.big hlt⟩)
        have HRow := Lib.hid (HKid.out W5 HKA.out)
        go_upto_region 14 with (fail)
        go_wp2_with (refine wpList_load_row rfl 40 (.tmp 9) rfl N3 rfl 40 (cellJ (gK ks i) un uk).toArray (0, 0) _ HRow.out Tryd.underlying40 rfl HIn.out ?_; simp only [Act.put, List.setIfInBounds_toArray, List.set_cons_succ, List.set_cons_zero])
        refine HTo.out.mono ?_
        rintro e W9 ⟨rfl, hk9, hw9⟩
        have HK9 := Lib.hid (HKB.out.trans hk9)
        obtain ⟨r, hr⟩ : ∃ r, numJ (gK ks i) = r := ⟨_, rfl⟩
        rw [hr] at hw9
        rw [hr]
        cases r with
        | false =>
          have HX := Lib.hid (kdStop (f := f) (k := 6) (t := t) (ns := ns) (w := w) HQ1.out HK9.out hlt hr)
          clear hr hk9 hw9
          go_wp2_with fail
          go_ret
          exact HX.out
        | true =>
          have HX := Lib.hid (kdNext HI.out hlt hr ((HK5.out.trans HKA.out).trans hk9) (hw9 rfl))
          clear hr hk9 hw9
          go_wp2_with fail
          go_roundw
          case rel => exact ⟨i + 1, by omega, by go_num, HX⟩
          case measure => simp [intOf]; omega
      · have hz : decide (0 < i) = true := by simp; omega
        have hc0 : (i == 0) = false := by simpa using h0
        have HPc := Lib.hid (put_any B b (f ++ partW 6 ns ks i) [44] W5 HW5.out (HBase.out W5 (HI.out.2.1.trans HK5.out)).2.1 (by simp))
        go_upto_region 10 with (fail)
        go_wp2_with fail
        refine HPc.out.mono ?_
        rintro e W6 ⟨rfl, hw6, hk6⟩
        have HW6 : Hid (WR B b ((f ++ partW 6 ns ks i) ++ commaJ (i == 0)) W6) := Lib.hid (by rw [hc0]; exact hw6)
        have HK6 := Lib.hid hk6
        have x0 : W6.cell? ⟨J, 0, none⟩ = some (.int .i64 6) := by rw [cell_of_row _ _ _ _ _ _ (HBase.out W6 ((HI.out.2.1.trans HK5.out).trans hk6)).2.2]; rfl
        clear hw6 hk6 hc0 hz HPc
        have HW8 : Hid (WR B b (((f ++ partW 6 ns ks i) ++ commaJ ((i : Nat) == 0)) ++ nameW 6 ns i) W6) := Lib.hid (by have := HW6.out; simpa [nameW] using this)
        have HK8 : Hid (KW B b W6 W6) := Lib.hid (KW.refl _ _ _)
        have HKA : Hid (KW B b W5 W6) := Lib.hid (HK6.out.trans HK8.out)
        have HKB : Hid (KW B b W1 W6) := Lib.hid ((HI.out.2.1.trans HK5.out).trans HKA.out)
        have HTo := Lib.hid (HIH.out i hlt _ _ W6 un uk ⟨HW8.out, (HBase.out W6 HKB.out).1, H.out.lo, H.out.hi, (HBase.out W6 HKB.out).2.1, HJv.out, (HWf.out i hlt).choose_spec, HCnt.out i hlt, big_kid H.out.big hlt⟩)
        have HRow := Lib.hid (HKid.out W6 HKA.out)
        go_upto_region 14 with (fail)
        go_wp2_with (refine wpList_load_row rfl 40 (.tmp 9) rfl N3 rfl 40 (cellJ (gK ks i) un uk).toArray (0, 0) _ HRow.out Tryd.underlying40 rfl HIn.out ?_; simp only [Act.put, List.setIfInBounds_toArray, List.set_cons_succ, List.set_cons_zero])
        refine HTo.out.mono ?_
        rintro e W9 ⟨rfl, hk9, hw9⟩
        have HK9 := Lib.hid (HKB.out.trans hk9)
        obtain ⟨r, hr⟩ : ∃ r, numJ (gK ks i) = r := ⟨_, rfl⟩
        rw [hr] at hw9
        rw [hr]
        cases r with
        | false =>
          have HX := Lib.hid (kdStop (f := f) (k := 6) (t := t) (ns := ns) (w := w) HQ1.out HK9.out hlt hr)
          clear hr hk9 hw9
          go_wp2_with fail
          go_ret
          exact HX.out
        | true =>
          have HX := Lib.hid (kdNext HI.out hlt hr ((HK5.out.trans HKA.out).trans hk9) (hw9 rfl))
          clear hr hk9 hw9
          go_wp2_with fail
          go_roundw
          case rel => exact ⟨i + 1, by omega, by go_num, HX⟩
          case measure => simp [intOf]; omega
    · have hd : decide (i < ks.length) = false := by simpa using hlt
      obtain rfl : i = ks.length := by omega
      have HPut := Lib.hid (put_any B b (f ++ partW 6 ns ks ks.length) [93] wa HI.out.1 (HBase.out wa HI.out.2.1).2.1 (by simp))
      go_wp2_with fail
      refine (put_as HPut.out (by rfl)).mono ?_
      intro e w2 hp
      obtain ⟨rfl, hx⟩ := kdDone (k := 6) (t := t) (by decide) HQ1.out HI.out 93 (by decide) hp
      have HX := Lib.hid hx
      clear hx hp
      go_wp2_with fail
      go_ret
      exact HX.out
set_option maxRecDepth 100000 in
theorem value_kids7 (B b : Nat) (f : Txt) (t : Txt) (ns : List Txt) (ks : List JsonD) (d : Nat) (w0 w : World) (vn vk : Value) (h : ToW B b f (.mk 7 t ns ks) d w0 w vn vk) (IH : KidsW B b ks w0) :
    Calls Tryd.prog 41 #[.pointer (some ⟨b, 0, none⟩), .agg (cellJ (.mk 7 t ns ks) vn vk).toArray] w (ValW B b f (.mk 7 t ns ks) w) := by
  have hcl := cnt_len ks
  have hcn := h.cnt
  rw [cntJ] at hcn
  have hkl : ks.length ≤ 8000 := by omega
  have hkid := h.jv.kidAt
  have hns : NsV w0 vn ns := by have := h.jv; rw [JV] at this; exact this.1
  obtain ⟨A2, c2n, rfl, hc1, hc2, hkd⟩ := hkid
  obtain ⟨A1, c1n, rfl, hn1, hn2, hn3⟩ := hns.at
  have HN3 := Lib.hid hn3
  have HKd := Lib.hid hkd
  have H := Lib.hid h
  have HIH := Lib.hid IH
  have HWf := Lib.hid (fun i (hi : i < ks.length) => wf_kid h.wf hi)
  have HCnt : Hid (∀ i, i < ks.length → cntJ (gK ks i) ≤ 8000) := Lib.hid (fun i hi => by have := cnt_gK hi; omega)
  have HNl : Hid (∀ i, (gL ns i).length ≤ 9223372036854775807) := Lib.hid (fun i => big_name h.big i)
  have HNk : Hid (ns.length = ks.length) := Lib.hid (wf_obj h.wf)
  clear h hn3 hkd hns IH hcl hcn
  go_enter Tryd.func41, Tryd.ntmps41
  go_upto_region 1 with (fail)
  obtain ⟨J, hJ⟩ : ∃ J, w.heap.size = J := ⟨_, rfl⟩
  have e1 := heap_alloc_new w (.cells (cellJ (.mk 7 t ns ks) (.slice A1 ns.length c1n) (.slice A2 ks.length c2n)).toArray 40)
  obtain ⟨W1, hW1⟩ : ∃ W1, w.alloc (.cells (cellJ (.mk 7 t ns ks) (.slice A1 ns.length c1n) (.slice A2 ks.length c2n)).toArray 40) = W1 := ⟨_, rfl⟩
  have q1 : Q w W1 := by rw [← hW1]; exact (Q.refl w).alloc _
  rw [hW1, hJ] at e1
  rw [hW1, hJ]
  have HE1 := Lib.hid e1
  have HQ1 := Lib.hid q1
  have HJ := Lib.hid hJ
  have HWR := Lib.hid (H.out.wr.q q1)
  have HBase : Hid (∀ W, KW B b W1 W → Q w0 W ∧ B ≤ W.heap.size ∧ W.heap[J]? = some (.cells (cellJ (.mk 7 t ns ks) (.slice A1 ns.length c1n) (.slice A2 ks.length c2n)).toArray 40 (0, 0))) := Lib.hid (fun W hk =>
    ⟨((KW.q HQ1.out).trans hk).toQ H.out.q H.out.lo (by have := H.out.lo; have := H.out.hi; omega), by have := H.out.sz; have := HQ1.out.size; have := hk.size; omega, hk.block J _ HE1.out (by have := H.out.hi; have := H.out.sz; have := HJ.out; omega) (.inr fun c fz e => by injection e with _ e _; exact absurd e (by decide))⟩)
  have x0 : W1.cell? ⟨J, 0, none⟩ = some (.int .i64 7) := by rw [cell_of_row _ _ _ _ _ _ HE1.out]; rfl
  have HP0 := Lib.hid (put_any B b f [123] W1 HWR.out (HBase.out W1 (KW.refl _ _ _)).2.1 (by simp))
  clear e1 q1 hJ hW1
  go_wp2_with fail
  refine (put_as HP0.out (by rfl)).mono ?_
  intro e w2 hp
  obtain ⟨rfl, hi0⟩ := kdStart (k := 7) (ns := ns) (ks := ks) 123 (by decide) hp
  have HI0 := Lib.hid hi0
  have x3 : w2.cell? ⟨J, 3, none⟩ = some (.slice A2 ks.length c2n) := by rw [cell_of_row _ _ _ _ _ _ (HBase.out w2 HI0.out.2.1).2.2]; rfl
  clear hp hi0 x0
  go_upto_region 7 with (fail)
  clear x3
  go_loopw [22] (fun i wx => ∃ n : Nat, n ≤ ks.length ∧ i = .int .i64 n ∧ Hid (KdI B b f 7 ns ks W1 n wx)) (fun i _ => ks.length - (intOf i).toNat)
  case atStart => exact ⟨0, Nat.zero_le _, rfl, HI0⟩
  case round =>
    obtain ⟨i, hil, rfl, HI⟩ := hrel
    rename World => wa
    by_cases hlt : i < ks.length
    · have hd : decide (i < ks.length) = true := by simpa using hlt
      obtain ⟨g, off, un, uk, hA⟩ := HKd.out i hlt
      obtain rfl := hA.a
      have HB1 := Lib.hid (HBase.out wa HI.out.2.1)
      have HA := Lib.hid (hA.q HB1.out.1)
      have HJv := Lib.hid hA.jv
      have HRg := Lib.hid HA.out.rg
      have HIn := Lib.hid (info_sz (gK ks i) un uk)
      have HOne := Lib.hid (cellJ_one (j := gK ks i) (jv_slices hA.jv).1 (jv_slices hA.jv).2)
      clear hA
      go_upto_region 8 with (fail)
      iterate 7 go_step
      refine wpList_load_mid rfl 40 (.tmp 25) rfl g (off + i * 4) rfl (cellJ (gK ks i) un uk) _ HRg.out Tryd.underlying40 rfl HIn.out ?_
      simp only [Act.put, List.setIfInBounds_toArray, List.set_cons_succ, List.set_cons_zero]
      go_upto_region 9 with (refine wpList_store_row rfl 40 (.tmp 9) (.tmp 26) rfl wa.heap.size (cellJ (gK ks i) un uk).toArray rfl rfl 40 _ (heap_alloc_new wa _) HIn.out rfl HOne.out ?_)
      simp only [Act.put]
      have HB3 : Hid (((wa.alloc (.cells #[.int .i64 0, .string ⟨#[]⟩, .slice none 0 0, .slice none 0 0] 40)).setRow wa.heap.size (cellJ (gK ks i) un uk).toArray).heap[wa.heap.size]? = some (.cells (cellJ (gK ks i) un uk).toArray 40 (0, 0))) := Lib.hid (setRow_at (heap_alloc_new wa _) _)
      have HQ3 : Hid (Q wa ((wa.alloc (.cells #[.int .i64 0, .string ⟨#[]⟩, .slice none 0 0, .slice none 0 0] 40)).setRow wa.heap.size (cellJ (gK ks i) un uk).toArray)) := Lib.hid (((Q.refl wa).alloc _).setRow (Nat.le_refl _) _)
      obtain ⟨N3, hN3⟩ : ∃ N3, wa.heap.size = N3 := ⟨_, rfl⟩
      obtain ⟨W5, hW5⟩ : ∃ W5, (wa.alloc (.cells #[.int .i64 0, .string ⟨#[]⟩, .slice none 0 0, .slice none 0 0] 40)).setRow N3 (cellJ (gK ks i) un uk).toArray = W5 := ⟨_, rfl⟩
      rw [hN3, hW5] at HB3 HQ3
      rw [hN3, hW5]
      have HNb : Hid (N3 ≠ b) := Lib.hid (by have := H.out.hi; have := HB1.out.2.1; omega)
      clear hN3 hW5
      have HKid : Hid (∀ W, KW B b W5 W → W.heap[N3]? = some (.cells (cellJ (gK ks i) un uk).toArray 40 (0, 0))) := Lib.hid (fun W hk => hk.block N3 _ HB3.out HNb.out (.inr fun c fz e => by injection e with _ e _; exact absurd e (by decide)))
      have HW5 : Hid (WR B b (f ++ partW 7 ns ks i) W5) := Lib.hid (HI.out.1.q HQ3.out)
      have HK5 : Hid (KW B b wa W5) := Lib.hid (KW.q HQ3.out)
      by_cases h0 : i = 0
      · have hz : decide (0 < i) = false := by simp; omega
        have hc0 : (i == 0) = true := by simpa using h0
        have HW6 : Hid (WR B b ((f ++ partW 7 ns ks i) ++ commaJ (i == 0)) W5) := Lib.hid (by rw [hc0]; have := HW5.out; simpa [commaJ] using this)
        have HK6 : Hid (KW B b W5 W5) := Lib.hid (KW.refl _ _ _)
        have x0 : W5.cell? ⟨J, 0, none⟩ = some (.int .i64 7) := by rw [cell_of_row _ _ _ _ _ _ (HBase.out W5 (HI.out.2.1.trans HK5.out)).2.2]; rfl
        clear hc0 h0
        obtain ⟨gn, offn, hA1, hcn⟩ := HN3.out i (by rw [HNk.out]; exact hlt)
        subst hA1
        have hBW := HBase.out W5 ((HI.out.2.1.trans HK5.out).trans HK6.out)
        have y2 : W5.cell? ⟨J, 2, none⟩ = some (.slice (some ⟨gn, offn, none⟩) ns.length c1n) := by rw [cell_of_row _ _ _ _ _ _ hBW.2.2]; rfl
        have yn := hBW.1.cell hcn
        have hdn : decide (i < ns.length) = true := by rw [HNk.out]; simpa using hlt
        have hpn : i < ns.length := by rw [HNk.out]; exact hlt
        have HTx := Lib.hid (qtext_any B b _ (gL ns i) W5 HW6.out hBW.2.1 (HNl.out i))
        clear hBW hcn
        go_wp2_with fail
        refine HTx.out.mono ?_
        rintro e W7 ⟨rfl, hw7, hk7⟩
        have HK7 := Lib.hid hk7
        have HPd := Lib.hid (put_any B b _ [58] W7 hw7 (HBase.out W7 (((HI.out.2.1.trans HK5.out).trans HK6.out).trans hk7)).2.1 (by simp))
        clear hw7 hk7 y2 yn hdn x0 HTx
        go_wp2_with fail
        refine HPd.out.mono ?_
        rintro e W8 ⟨rfl, hw8, hk8⟩
        have HW8 : Hid (WR B b (((f ++ partW 7 ns ks i) ++ commaJ (i == 0)) ++ nameW 7 ns i) W8) := Lib.hid (by have := hw8; simpa [nameW] using this)
        have HK8 : Hid (KW B b W5 W8) := Lib.hid (HK7.out.trans hk8)
        clear hw8 hk8 HPd
        have HKA : Hid (KW B b W5 W8) := Lib.hid (HK6.out.trans HK8.out)
        have HKB : Hid (KW B b W1 W8) := Lib.hid ((HI.out.2.1.trans HK5.out).trans HKA.out)
        have HTo := Lib.hid (HIH.out i hlt _ _ W8 un uk ⟨HW8.out, (HBase.out W8 HKB.out).1, H.out.lo, H.out.hi, (HBase.out W8 HKB.out).2.1, HJv.out, (HWf.out i hlt).choose_spec, HCnt.out i hlt, big_kid H.out.big hlt⟩)
        have HRow := Lib.hid (HKid.out W8 HKA.out)
        go_upto_region 14 with (fail)
        go_wp2_with (refine wpList_load_row rfl 40 (.tmp 9) rfl N3 rfl 40 (cellJ (gK ks i) un uk).toArray (0, 0) _ HRow.out Tryd.underlying40 rfl HIn.out ?_; simp only [Act.put, List.setIfInBounds_toArray, List.set_cons_succ, List.set_cons_zero])
        refine HTo.out.mono ?_
        rintro e W9 ⟨rfl, hk9, hw9⟩
        have HK9 := Lib.hid (HKB.out.trans hk9)
        obtain ⟨r, hr⟩ : ∃ r, numJ (gK ks i) = r := ⟨_, rfl⟩
        rw [hr] at hw9
        rw [hr]
        cases r with
        | false =>
          have HX := Lib.hid (kdStop (f := f) (k := 7) (t := t) (ns := ns) (w := w) HQ1.out HK9.out hlt hr)
          clear hr hk9 hw9
          go_wp2_with fail
          go_ret
          exact HX.out
        | true =>
          have HX := Lib.hid (kdNext HI.out hlt hr ((HK5.out.trans HKA.out).trans hk9) (hw9 rfl))
          clear hr hk9 hw9
          go_wp2_with fail
          go_roundw
          case rel => exact ⟨i + 1, by omega, by go_num, HX⟩
          case measure => simp [intOf]; omega
      · have hz : decide (0 < i) = true := by simp; omega
        have hc0 : (i == 0) = false := by simpa using h0
        have HPc := Lib.hid (put_any B b (f ++ partW 7 ns ks i) [44] W5 HW5.out (HBase.out W5 (HI.out.2.1.trans HK5.out)).2.1 (by simp))
        go_upto_region 10 with (fail)
        go_wp2_with fail
        refine HPc.out.mono ?_
        rintro e W6 ⟨rfl, hw6, hk6⟩
        have HW6 : Hid (WR B b ((f ++ partW 7 ns ks i) ++ commaJ (i == 0)) W6) := Lib.hid (by rw [hc0]; exact hw6)
        have HK6 := Lib.hid hk6
        have x0 : W6.cell? ⟨J, 0, none⟩ = some (.int .i64 7) := by rw [cell_of_row _ _ _ _ _ _ (HBase.out W6 ((HI.out.2.1.trans HK5.out).trans hk6)).2.2]; rfl
        clear hw6 hk6 hc0 hz HPc
        obtain ⟨gn, offn, hA1, hcn⟩ := HN3.out i (by rw [HNk.out]; exact hlt)
        subst hA1
        have hBW := HBase.out W6 ((HI.out.2.1.trans HK5.out).trans HK6.out)
        have y2 : W6.cell? ⟨J, 2, none⟩ = some (.slice (some ⟨gn, offn, none⟩) ns.length c1n) := by rw [cell_of_row _ _ _ _ _ _ hBW.2.2]; rfl
        have yn := hBW.1.cell hcn
        have hdn : decide (i < ns.length) = true := by rw [HNk.out]; simpa using hlt
        have hpn : i < ns.length := by rw [HNk.out]; exact hlt
        have HTx := Lib.hid (qtext_any B b _ (gL ns i) W6 HW6.out hBW.2.1 (HNl.out i))
        clear hBW hcn
        go_wp2_with fail
        refine HTx.out.mono ?_
        rintro e W7 ⟨rfl, hw7, hk7⟩
        have HK7 := Lib.hid hk7
        have HPd := Lib.hid (put_any B b _ [58] W7 hw7 (HBase.out W7 (((HI.out.2.1.trans HK5.out).trans HK6.out).trans hk7)).2.1 (by simp))
        clear hw7 hk7 y2 yn hdn x0 HTx
        go_wp2_with fail
        refine HPd.out.mono ?_
        rintro e W8 ⟨rfl, hw8, hk8⟩
        have HW8 : Hid (WR B b (((f ++ partW 7 ns ks i) ++ commaJ (i == 0)) ++ nameW 7 ns i) W8) := Lib.hid (by have := hw8; simpa [nameW] using this)
        have HK8 : Hid (KW B b W6 W8) := Lib.hid (HK7.out.trans hk8)
        clear hw8 hk8 HPd
        have HKA : Hid (KW B b W5 W8) := Lib.hid (HK6.out.trans HK8.out)
        have HKB : Hid (KW B b W1 W8) := Lib.hid ((HI.out.2.1.trans HK5.out).trans HKA.out)
        have HTo := Lib.hid (HIH.out i hlt _ _ W8 un uk ⟨HW8.out, (HBase.out W8 HKB.out).1, H.out.lo, H.out.hi, (HBase.out W8 HKB.out).2.1, HJv.out, (HWf.out i hlt).choose_spec, HCnt.out i hlt, big_kid H.out.big hlt⟩)
        have HRow := Lib.hid (HKid.out W8 HKA.out)
        go_upto_region 14 with (fail)
        go_wp2_with (refine wpList_load_row rfl 40 (.tmp 9) rfl N3 rfl 40 (cellJ (gK ks i) un uk).toArray (0, 0) _ HRow.out Tryd.underlying40 rfl HIn.out ?_; simp only [Act.put, List.setIfInBounds_toArray, List.set_cons_succ, List.set_cons_zero])
        refine HTo.out.mono ?_
        rintro e W9 ⟨rfl, hk9, hw9⟩
        have HK9 := Lib.hid (HKB.out.trans hk9)
        obtain ⟨r, hr⟩ : ∃ r, numJ (gK ks i) = r := ⟨_, rfl⟩
        rw [hr] at hw9
        rw [hr]
        cases r with
        | false =>
          have HX := Lib.hid (kdStop (f := f) (k := 7) (t := t) (ns := ns) (w := w) HQ1.out HK9.out hlt hr)
          clear hr hk9 hw9
          go_wp2_with fail
          go_ret
          exact HX.out
        | true =>
          have HX := Lib.hid (kdNext HI.out hlt hr ((HK5.out.trans HKA.out).trans hk9) (hw9 rfl))
          clear hr hk9 hw9
          go_wp2_with fail
          go_roundw
          case rel => exact ⟨i + 1, by omega, by go_num, HX⟩
          case measure => simp [intOf]; omega
    · have hd : decide (i < ks.length) = false := by simpa using hlt
      obtain rfl : i = ks.length := by omega
      have HPut := Lib.hid (put_any B b (f ++ partW 7 ns ks ks.length) [125] wa HI.out.1 (HBase.out wa HI.out.2.1).2.1 (by simp))
      go_wp2_with fail
      refine (put_as HPut.out (by rfl)).mono ?_
      intro e w2 hp
      obtain ⟨rfl, hx⟩ := kdDone (k := 7) (t := t) (by decide) HQ1.out HI.out 125 (by decide) hp
      have HX := Lib.hid hx
      clear hx hp
      go_wp2_with fail
      go_ret
      exact HX.out
end Go.Proofs.YtlhhiiemojhjdaaDoor
set_option linter.unusedVariables false
set_option linter.unusedSimpArgs false
namespace Go.Proofs.YtlhhiiemojhjdaaDoor
open Go Go.RowKit
theorem value_write : ∀ (n : Nat) (j : JsonD), cntJ j ≤ n → ∀ (B b : Nat) (f : Txt) (d : Nat) (w0 w : World) (vn vk : Value), ToW B b f j d w0 w vn vk →
    Calls Tryd.prog 41 #[.pointer (some ⟨b, 0, none⟩), .agg (cellJ j vn vk).toArray] w (ValW B b f j w)
  | 0, j, hn, _, _, _, _, _, _, _, _, _ => absurd hn (by have := cnt_pos j; omega)
  | n + 1, .mk k t ns ks, hn, B, b, f, d, w0, w, vn, vk, h => by
    rw [cntJ] at hn
    have IH : KidsW B b ks w0 := fun i hi f' d' W xn xk hx => value_write n (gK ks i) (gK_sub (by omega) hi) B b f' d' w0 W xn xk hx
    by_cases h6 : k = 6
    · subst h6; exact value_kids6 B b f t ns ks d w0 w vn vk h IH
    · by_cases h7 : k = 7
      · subst h7; exact value_kids7 B b f t ns ks d w0 w vn vk h IH
      · exact value_leaf B b f k t ns ks d w0 w vn vk h ⟨h6, h7⟩
def writeR (j : JsonD) : Txt × Int := if rtB j 20 8000 = true ∧ numJ j = true then (if 8000 < (writeJ j).length then ([], 56) else (writeJ j, 0)) else ([], 54)
theorem cut_len {l f : Txt} (h : CutT l f) : 8000 < l.length ↔ 8000 < f.length := by
  rcases h with rfl | ⟨h1, h2⟩
  · exact Iff.rfl
  · omega
theorem cut_all {l f : Txt} (h : CutT l f) (hl : ¬ 8000 < f.length) : l = f := by
  rcases h with h | ⟨_, h⟩
  · exact h
  · exact absurd h hl
theorem isNum_ne {t : Txt} (h : isNumL t = true) : t ≠ [] := fun e => by subst e; revert h; decide
theorem writeJ_ne {j : JsonD} {d : Nat} (h : wfJ j d = true) (hn : numJ j = true) : writeJ j ≠ [] := by
  obtain ⟨k, t, ns, ks⟩ := j
  rw [writeJ]
  rcases wf_kind h with rfl | rfl | rfl | rfl | rfl | rfl | rfl
  · simp
  · simp
  · simp
  · have h4 := wf_leaf h (by decide)
    subst h4
    rw [num_four] at hn
    simpa using isNum_ne hn
  · simp [quoteJ]
  · simp
  · simp
set_option maxRecDepth 100000 in
theorem Write_any (j : JsonD) (w : World) (vn vk : Value) (hj : JV w j vn vk) (hu : UT w) (hb : bigJ 1100000 j) :
    Calls Tryd.prog 20 #[.agg (cellJ j vn vk).toArray] w fun e w' => e = .returned (.tuple #[.string ⟨(writeR j).1.toArray⟩, .int .i64 (writeR j).2]) ∧ Q w w' := by
  have HC1 := Lib.hid (fun W (hq : Q w W) => isRight_any j W vn vk (hj.q hq) (Utf8Tabs_below hu hq) (bigJ_mono (by decide) _ hb))
  have HJv := Lib.hid hj
  have HBig := Lib.hid hb
  obtain ⟨⟨A1, n1, c1n, rfl⟩, A2, n2, c2n, rfl⟩ := jv_slices hj
  have HWrn : Hid (∀ e1 : rtB j 20 8000 = false ∨ numJ j = false, writeR j = ([], 54)) := Lib.hid (fun h => by
    unfold writeR
    rw [if_neg (fun x => by rcases h with h | h <;> (rw [h] at x; simp at x))])
  have HWry : Hid (rtB j 20 8000 = true → numJ j = true → writeR j = if 8000 < (writeJ j).length then ([], 56) else (writeJ j, 0)) := Lib.hid (fun h1 h2 => by
    unfold writeR
    rw [if_pos ⟨h1, h2⟩])
  obtain ⟨k, t, ns, ks⟩ := j
  obtain ⟨R, hR⟩ : ∃ R, writeR (.mk k t ns ks) = R := ⟨_, rfl⟩
  rw [hR] at HWrn HWry
  rw [hR]
  clear hj hu hb hR
  go_enter Tryd.func20, Tryd.ntmps20
  go_upto_region 1 with (fail)
  have e1 := heap_alloc_new w (.cells (cellJ (.mk k t ns ks) (.slice A1 n1 c1n) (.slice A2 n2 c2n)).toArray 40)
  have q1 : Q w (w.alloc (.cells (cellJ (.mk k t ns ks) (.slice A1 n1 c1n) (.slice A2 n2 c2n)).toArray 40)) := (Q.refl w).alloc _
  have s1 : (w.alloc (.cells (cellJ (.mk k t ns ks) (.slice A1 n1 c1n) (.slice A2 n2 c2n)).toArray 40)).heap.size = w.heap.size + 1 := by simp
  obtain ⟨W1, hW1⟩ : ∃ W1, w.alloc (.cells (cellJ (.mk k t ns ks) (.slice A1 n1 c1n) (.slice A2 n2 c2n)).toArray 40) = W1 := ⟨_, rfl⟩
  rw [hW1] at e1 q1 s1
  rw [hW1]
  go_upto_region 2 with (fail)
  have e2 := heap_alloc_new W1 (.cells #[.pointer none, .slice none 0 0] 72)
  have q2 : Q W1 (W1.alloc (.cells #[.pointer none, .slice none 0 0] 72)) := (Q.refl W1).alloc _
  have s2 : (W1.alloc (.cells #[.pointer none, .slice none 0 0] 72)).heap.size = w.heap.size + 2 := by simp [s1]
  rw [s1] at e2
  obtain ⟨W2, hW2⟩ : ∃ W2, W1.alloc (.cells #[.pointer none, .slice none 0 0] 72) = W2 := ⟨_, rfl⟩
  rw [hW2] at e2 q2 s2
  rw [hW2]
  obtain ⟨B, hB⟩ : ∃ B, w.heap.size = B := ⟨_, rfl⟩
  have e1 := q2.block e1
  rw [hB] at e1 e2 s2
  rw [hB]
  have HB := Lib.hid hB
  have HE1 := Lib.hid e1
  have HQ2 := Lib.hid (q1.trans q2)
  have HS2 := Lib.hid s2
  have HWR : Hid (WR (B + 2) (B + 1) [] W2) := Lib.hid ⟨[], ⟨by omega, _, _, e2, .inl rfl, World.ownsRow_nil _ _ _ _⟩, .inl rfl, by simp⟩
  clear e1 e2 q1 q2 s1 s2 hW1 hW2 hB
  have x0 : W2.cell? ⟨B, 0, none⟩ = some (.int .i64 k) := by rw [cell_of_row _ _ _ _ _ _ HE1.out]; rfl
  have x1 : W2.cell? ⟨B, 1, none⟩ = some (.string ⟨t.toArray⟩) := by rw [cell_of_row _ _ _ _ _ _ HE1.out]; rfl
  have x2 : W2.cell? ⟨B, 2, none⟩ = some (.slice A1 n1 c1n) := by rw [cell_of_row _ _ _ _ _ _ HE1.out]; rfl
  have x3 : W2.cell? ⟨B, 3, none⟩ = some (.slice A2 n2 c2n) := by rw [cell_of_row _ _ _ _ _ _ HE1.out]; rfl
  go_wp2_with fail
  refine (HC1.out _ HQ2.out).mono ?_
  rintro e W3 ⟨rfl, hq3⟩
  have HQ3 := Lib.hid hq3
  have x0 := hq3.cell x0
  have x1 := hq3.cell x1
  have x2 := hq3.cell x2
  have x3 := hq3.cell x3
  clear hq3
  obtain ⟨p, hp⟩ : ∃ p, rtB (.mk k t ns ks) 20 8000 = p := ⟨_, rfl⟩
  have HP := Lib.hid hp
  rw [hp]
  clear hp
  cases p with
  | false =>
    have HR := Lib.hid (HWrn.out (.inl HP.out))
    clear x0 x1 x2 x3
    go_wp2_with fail
    go_ret2
    exact ⟨by rw [HR.out]; rfl, HQ2.out.trans HQ3.out⟩
  | true =>
    have hw := rt_wf HP.out
    have HVal := Lib.hid (value_write _ (.mk k t ns ks) (Nat.le_refl _) (B + 2) (B + 1) [] 20 w W3 _ _ ⟨HWR.out.q HQ3.out, HQ2.out.trans HQ3.out, by rw [HB.out]; omega, by omega, by have := HQ3.out.size; have := HS2.out; omega, HJv.out, hw.1, by have := hw.2; omega, HBig.out⟩)
    have HWf := Lib.hid hw.1
    clear hw
    go_wp2_with fail
    refine HVal.out.mono ?_
    rintro e W4 ⟨rfl, hk4, hw4⟩
    have HQ4 : Hid (Q w W4) := Lib.hid (hk4.toQ (HQ2.out.trans HQ3.out) (by rw [HB.out]; omega) (by rw [HB.out]; omega))
    have HSz4 : Hid (B + 2 ≤ W4.heap.size) := Lib.hid (by have := HQ3.out.size; have := HS2.out; have := hk4.size; omega)
    clear x0 x1 x2 x3 hk4 HVal
    obtain ⟨r, hr⟩ : ∃ r, numJ (.mk k t ns ks) = r := ⟨_, rfl⟩
    have HN := Lib.hid hr
    rw [hr] at hw4
    rw [hr]
    clear hr
    cases r with
    | false =>
      have HR := Lib.hid (HWrn.out (.inr HN.out))
      clear hw4
      go_wp2_with fail
      go_ret2
      exact ⟨by rw [HR.out]; rfl, HQ4.out⟩
    | true =>
      have HR := Lib.hid (HWry.out HP.out HN.out)
      obtain ⟨l, hl1, hl2, hl3⟩ := hw4 rfl
      rw [List.nil_append] at hl2
      have HWne := Lib.hid (writeJ_ne HWf.out HN.out)
      have HL := Lib.hid (woLen _ _ l W4 hl1)
      have HO := Lib.hid hl1
      have HCu := Lib.hid hl2
      clear hw4 hl1 hl2
      go_wp2_with fail
      refine HL.out.mono ?_
      rintro e W5 ⟨rfl, hq5⟩
      have HQ5 := Lib.hid hq5
      clear hq5
      by_cases hlen : 8000 < l.length
      · have g1 : decide ((8000 : Int) < (l.length : Int)) = true := by simp; omega
        have HR2 : Hid (R = ([], 56)) := Lib.hid (by rw [HR.out, if_pos ((cut_len HCu.out).1 hlen)])
        go_wp2_with fail
        go_ret2
        exact ⟨by rw [HR2.out]; rfl, HQ4.out.trans HQ5.out⟩
      · have g1 : decide ((8000 : Int) < (l.length : Int)) = false := by simp; omega
        have hnl : ¬ 8000 < (writeJ (.mk k t ns ks)).length := fun h => hlen ((cut_len HCu.out).2 h)
        have hle := cut_all HCu.out hnl
        have HR2 : Hid (R = (l, 0)) := Lib.hid (by rw [HR.out, if_neg hnl, hle])
        have HSt := Lib.hid (woString _ _ l W5 (HO.out.q HQ5.out) (by rw [hle]; exact HWne.out))
        clear hnl hle
        go_wp2_with fail
        refine HSt.out.mono ?_
        rintro e W6 ⟨rfl, hb6⟩
        have HX : Hid (Q w W6) := Lib.hid (Q.below (HQ4.out.trans HQ5.out) (hb6.mono (by rw [HB.out]; omega)))
        clear hb6
        go_wp2_with fail
        go_ret2
        exact ⟨by rw [HR2.out]; rfl, HX.out⟩
end Go.Proofs.YtlhhiiemojhjdaaDoor
set_option linter.unusedVariables false
set_option linter.unusedSimpArgs false
namespace Go.Proofs.YtlhhiiemojhjdaaDoor
open Go Go.RowKit
def exS : Txt := [123, 34, 97, 34, 58, 32, 91, 49, 44, 32, 34, 120, 34, 44, 32, 110, 117, 108, 108, 93, 125]
def exK : JsonD := .mk 6 [] [] [.mk 4 [49] [] [], .mk 5 [120] [] [], .mk 1 [] [] []]
def exJ : JsonD := .mk 7 [] [[97]] [exK]
theorem ex_parse : parseJ exS = .ok exJ := by kernel_rfl
theorem ex_bad : parseJ [91, 49, 44, 93] = .error (54, 3) := by kernel_rfl
theorem ex_write : writeR exJ = ([123, 34, 97, 34, 58, 91, 49, 44, 34, 120, 34, 44, 110, 117, 108, 108, 93, 125], 0) := by kernel_rfl
theorem ex_find : findJ exJ [97] = (exK, true) := by kernel_rfl
theorem ex_same : sameF exJ exJ = true := by kernel_rfl
end Go.Proofs.YtlhhiiemojhjdaaDoor
set_option linter.unusedVariables false
set_option linter.unusedSimpArgs false
namespace Go.Proofs.YtlhhiiemojhjdaaDoor
open Go Go.RowKit
theorem errFault (a : Option Addr) (w : World) : (Instr.typeAssert (.iface 76 (.pointer a)) 32 76 true).run Tryd.prog w = .ok (.tuple #[.pointer a, .bool true]) w := by kernel_rfl
set_option maxRecDepth 100000 in
theorem told_fault (w : World) (bf : Nat) (c a : Int) (h : FaultJ w bf c a) (hc : c ≠ 0) : Calls Tryd.prog 23 #[.iface 76 (.pointer (some ⟨bf, 0, none⟩))] w fun e w' => e = .returned (.tuple #[.int .i64 c, .int .i64 a, .bool true]) ∧ Q w w' := by
  have x0 : w.cell? ⟨bf, 0, none⟩ = some (.int .i64 c) := by rw [cell_of_row _ _ _ _ _ _ h]; rfl
  have x1 : w.cell? ⟨bf, 1, none⟩ = some (.int .i64 a) := by rw [cell_of_row _ _ _ _ _ _ h]; rfl
  have x2 : w.cell? ⟨bf, 2, none⟩ = some .nilIface := by rw [cell_of_row _ _ _ _ _ _ h]; rfl
  have g1 : decide (c = 0) = false := by simpa using hc
  have g2 : (c == 0) = false := by simpa using hc
  clear h
  go_enter Tryd.func23, Tryd.ntmps23
  have mixed : Tryd.prog.follows .mixedOrders = true := by kernel_rfl
  go_wp2_with fail
  rw [errFault]
  simp only [Result.andThen]
  rw [Oper.upon_value]
  go_upto_region 6 with (fail)
  have c0 : w.drew.cell? ⟨bf, 0, none⟩ = some (.int .i64 c) := x0
  have c1 : w.drew.cell? ⟨bf, 1, none⟩ = some (.int .i64 a) := x1
  go_region_o
  all_goals
    go_wp2_with fail
    refine bodyPost_ret (results_tmp3 rfl _ _ _) rfl ?_
    exact ⟨rfl, (Q.refl w).drew⟩
end Go.Proofs.YtlhhiiemojhjdaaDoor
