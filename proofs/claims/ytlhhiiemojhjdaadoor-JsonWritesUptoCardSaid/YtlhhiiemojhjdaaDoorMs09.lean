/- Texts of this proof, laid into one: KcB. -/
import Derived.Test.YtlhhiiemojhjdaaDoorMs08
set_option linter.unusedVariables false
set_option linter.unusedSimpArgs false
namespace Go.Proofs.YtlhhiiemojhjdaaDoor
open Go Go.RowKit
def LfB (w : World) (lb : Nat) (L : Int) : Prop := w.heap[lb]? = some (.cells #[.int .i64 L] 3 (0, 0))
def rtB (j : JsonD) (d : Nat) (L : Int) : Bool := wfJ j d && decide ((cntJ j : Int) ≤ L)
def RtP (j : JsonD) (d : Nat) (L : Int) (lb : Nat) (w : World) (e : Ending) (w' : World) : Prop :=
  e = .returned (.bool (rtB j d L)) ∧ GX [lb] w w' ∧ ∃ L' : Int, LfB w' lb L' ∧ -1 ≤ L' ∧ (rtB j d L = true → L' = L - cntJ j)
structure RtH (j : JsonD) (wJ w : World) (vn vk : Value) (lb : Nat) (L : Int) : Prop where
  jv : JV wJ j vn vk
  q : Q wJ w
  ut : UT wJ
  lt : wJ.heap.size ≤ lb
  lf : LfB w lb L
  big : bigJ 9223372036854775807 j
theorem cnt_pos (j : JsonD) : 1 ≤ cntJ j := by
  obtain ⟨k, t, ns, ks⟩ := j
  rw [cntJ]; omega
set_option maxRecDepth 100000 in
theorem right_zero (j : JsonD) (d : Nat) (wJ w : World) (vn vk : Value) (lb : Nat) (L : Int) (h : RtH j wJ w vn vk lb L) (hL : L = 0) (D : Int) :
    Calls Tryd.prog 64 #[.agg (cellJ j vn vk).toArray, .int .i64 D, .pointer (some ⟨lb, 0, none⟩)] w (RtP j d L lb w) := by
  have HX : Hid (rtB j d L = false) := Lib.hid (by
    have := cnt_pos j
    unfold rtB
    simp; intro _; omega)
  subst hL
  have clb : w.cell? ⟨lb, 0, none⟩ = some (.int .i64 0) := by rw [cell_of_row _ _ _ _ _ _ h.lf]; rfl
  have flb := frozen_of_row w lb 0 _ _ h.lf
  have hlt := lt_of_heap h.lf
  have H := Lib.hid h
  clear h
  go_enter Tryd.func64, Tryd.ntmps64
  go_wp2_with fail
  have HG : Hid (GX [lb] w ((w.setCell ⟨lb, 0, none⟩ (.int .i64 (-1))).alloc (.cells (cellJ j vn vk).toArray 40))) := Lib.hid (((GX.refl [lb] w).set (by simp) _ _).reader ((Q.refl _).alloc _))
  have HL : Hid (LfB ((w.setCell ⟨lb, 0, none⟩ (.int .i64 (-1))).alloc (.cells (cellJ j vn vk).toArray 40)) lb (-1)) := Lib.hid (((Q.refl _).alloc _).block (by rw [heap_setCell_any w lb 0 _ _ _ _ H.out.lf]; rfl))
  go_ret
  exact ⟨by rw [HX.out]; rfl, HG.out, -1, HL.out, by omega, fun e => by rw [HX.out] at e; cases e⟩
theorem jv_form {w : World} {k : Int} {t : Txt} {ns : List Txt} {ks : List JsonD} {vn vk : Value} (h : JV w (.mk k t ns ks) vn vk) : (∃ A c, vn = .slice A ns.length c ∧ ns.length ≤ c ∧ c ≤ 9223372036854775807) ∧ ∃ A c, vk = .slice A ks.length c ∧ ks.length ≤ c ∧ c ≤ 9223372036854775807 := by
  obtain ⟨B, c, e, h2, h3, _⟩ := h.kid
  rw [JV] at h
  obtain ⟨⟨A, c', e', h1, h4, _⟩, _⟩ := h
  exact ⟨⟨A, c', e', h1, h4⟩, B, c, e, h2, h3⟩
theorem rt_end {k : Int} {t : Txt} {ns : List Txt} {ks : List JsonD} {d : Nat} {L : Int} {lb : Nat} {w w2 : World} (b : Bool) (hb : wfJ (.mk k t ns ks) d = b) (hks : b = true → ks = []) (hL : 1 ≤ L) (hg : GX [lb] w w2) (hl : LfB w2 lb (L - 1)) : RtP (.mk k t ns ks) d L lb w (.returned (.bool b)) w2 := by
  have e : rtB (.mk k t ns ks) d L = b := by
    unfold rtB
    rw [hb]
    cases b with
    | false => rfl
    | true =>
      have := hks rfl
      subst this
      rw [cntJ, cntKs]; simp; omega
  refine ⟨by rw [e], hg, L - 1, hl, by omega, fun h => ?_⟩
  have := hks (by rw [← e]; exact h)
  subst this
  rw [cntJ, cntKs]; simp
def RtKids (ks : List JsonD) (d : Nat) (D : Int) (wJ : World) (lb : Nat) : Prop := ∀ i, i < ks.length → ∀ W vn vk L, RtH (gK ks i) wJ W vn vk lb L → 0 ≤ L → L ≤ 8000 →
  Calls Tryd.prog 64 #[.agg (cellJ (gK ks i) vn vk).toArray, .int .i64 (D + 1), .pointer (some ⟨lb, 0, none⟩)] W (RtP (gK ks i) (d - 1) L lb W)
theorem gK_split (ks : List JsonD) (i : Nat) (h : i < ks.length) : ks = ks.take i ++ gK ks i :: ks.drop (i + 1) := by
  rw [gK_get ks i h]
  have := List.take_append_drop i ks
  rw [List.drop_eq_getElem_cons h] at this
  exact this.symm
theorem gK_take (ks : List JsonD) (i : Nat) (h : i < ks.length) : ks.take (i + 1) = ks.take i ++ [gK ks i] := by
  rw [gK_get ks i h, List.take_add_one, List.getElem?_eq_getElem h]; rfl
def KidsSt (w : World) (lb : Nat) (L : Int) (ks : List JsonD) (d i : Nat) (W : World) : Prop := GX [lb] w W ∧ LfB W lb (L - 1 - (cntKs (ks.take i) : Int)) ∧ (cntKs (ks.take i) : Int) ≤ L - 1 ∧ wfKs (ks.take i) (d - 1) = true
theorem kids_no {w W W' : World} {lb : Nat} {L L' : Int} {k : Int} {t : Txt} {ns : List Txt} {ks : List JsonD} {d i : Nat} (hi : i < ks.length) (h : KidsSt w lb L ks d i W) (hwf : wfJ (.mk k t ns ks) d = wfKs ks (d - 1)) (hno : rtB (gK ks i) (d - 1) (L - 1 - (cntKs (ks.take i) : Int)) = false)
    (hg : GX [lb] w W') (hl : LfB W' lb L') (hl2 : -1 ≤ L') : RtP (.mk k t ns ks) d L lb w (.returned (.bool false)) W' := by
  have e : rtB (.mk k t ns ks) d L = false := by
    unfold rtB at hno ⊢
    rw [hwf]
    have hs := gK_split ks i hi
    have e1 : wfKs ks (d - 1) = (wfKs (ks.take i) (d - 1) && (wfJ (gK ks i) (d - 1) && wfKs (ks.drop (i + 1)) (d - 1))) := by
      conv => lhs; rw [hs]
      rw [wfKs_app, wfKs]
    have e2 : cntKs ks = cntKs (ks.take i) + (cntJ (gK ks i) + cntKs (ks.drop (i + 1))) := by
      conv => lhs; rw [hs]
      rw [cntKs_app, cntKs]
    rw [cntJ]
    simp only [Bool.and_eq_false_iff, decide_eq_false_iff_not] at hno ⊢
    rcases hno with h1 | h1
    · left; rw [e1, h1]; simp
    · right; omega
  refine ⟨by rw [e], hg, L', hl, hl2, fun x => ?_⟩
  rw [e] at x; cases x
theorem kids_yes {w W : World} {lb : Nat} {L : Int} {k : Int} {t : Txt} {ns : List Txt} {ks : List JsonD} {d : Nat} (h : KidsSt w lb L ks d ks.length W) (hwf : wfJ (.mk k t ns ks) d = wfKs ks (d - 1)) : RtP (.mk k t ns ks) d L lb w (.returned (.bool true)) W := by
  obtain ⟨h1, h2, h3, h4⟩ := h
  rw [List.take_length] at h2 h3 h4
  have e : rtB (.mk k t ns ks) d L = true := by
    unfold rtB
    rw [hwf, h4, cntJ]; simp; omega
  refine ⟨by rw [e], h1, _, h2, by omega, fun _ => by rw [cntJ]; omega⟩
theorem kids_next {w W W' : World} {lb : Nat} {L L' : Int} {ks : List JsonD} {d i : Nat} (hi : i < ks.length) (h : KidsSt w lb L ks d i W) (hyes : rtB (gK ks i) (d - 1) (L - 1 - (cntKs (ks.take i) : Int)) = true)
    (hg : GX [lb] w W') (hl : LfB W' lb L') (he : L' = L - 1 - (cntKs (ks.take i) : Int) - cntJ (gK ks i)) : KidsSt w lb L ks d (i + 1) W' := by
  obtain ⟨h1, h2, h3, h4⟩ := h
  unfold rtB at hyes
  rw [Bool.and_eq_true, decide_eq_true_eq] at hyes
  have e : cntKs (ks.take (i + 1)) = cntKs (ks.take i) + cntJ (gK ks i) := by rw [gK_take ks i hi, cntKs_app, cntKs, cntKs]; rfl
  refine ⟨hg, ?_, by rw [e]; omega, ?_⟩
  · rw [e, show L - 1 - ((cntKs (ks.take i) + cntJ (gK ks i) : Nat) : Int) = L' by omega]; exact hl
  · rw [gK_take ks i hi, wfKs_app, h4, wfKs, wfKs, hyes.1]; rfl
theorem bigKs_gK {N : Nat} {ks : List JsonD} (h : bigKs N ks) {i : Nat} (hi : i < ks.length) : bigJ N (gK ks i) := by
  rw [gK_get ks i hi]; exact (bigKs_iff N ks).1 h _ (List.getElem_mem hi)
theorem jv_slices {w : World} {j : JsonD} {vn vk : Value} (h : JV w j vn vk) : (∃ A n c, vn = .slice A n c) ∧ ∃ A n c, vk = .slice A n c := by
  obtain ⟨k, t, ns, ks⟩ := j
  obtain ⟨⟨A, c, e, _⟩, A', c', e', _⟩ := jv_form h
  exact ⟨⟨_, _, _, e⟩, _, _, _, e'⟩
set_option maxRecDepth 100000 in
theorem right_1 (t : Txt) (ns : List Txt) (ks : List JsonD) (d : Nat) (wJ w : World) (vn vk : Value) (lb : Nat) (L : Int) (h : RtH (.mk 1 t ns ks) wJ w vn vk lb L) (hL : 1 ≤ L) (hL2 : L ≤ 8000) (D : Int) :
    Calls Tryd.prog 64 #[.agg (cellJ (.mk 1 t ns ks) vn vk).toArray, .int .i64 D, .pointer (some ⟨lb, 0, none⟩)] w (RtP (.mk 1 t ns ks) d L lb w) := by
  have hI := True.intro
  all_goals
    by_cases ht : t = []
    · by_cases hkz : ks = []
      · by_cases hnz : ns = []
        · have hte : List.isEmpty t = true := by simp [ht]
          have hke : decide (0 < ks.length) = false := by simp [hkz]
          have hne : decide (0 < ns.length) = false := by simp [hnz]
          have HB : Hid (wfJ (.mk 1 t ns ks) d = true) := Lib.hid (by rw [wfJ]; simp [ht, hkz, hnz])
          have HL0 := Lib.hid hL
          have HKS := Lib.hid hkz
          clear ht hkz hnz
          have clb : w.cell? ⟨lb, 0, none⟩ = some (.int .i64 L) := by rw [cell_of_row _ _ _ _ _ _ h.lf]; rfl
          have flb := frozen_of_row w lb 0 _ _ h.lf
          have hlt := lt_of_heap h.lf
          have g0 : decide (L - 1 < 0) = false := by simp; omega
          have gl1 : (0 : Int) ≤ L - 1 := by omega
          have H := Lib.hid h
          obtain ⟨⟨A1, c1n, rfl, _⟩, A2, c2n, rfl, _⟩ := jv_form h.jv
          clear h
          go_enter Tryd.func64, Tryd.ntmps64
          go_upto_region 4 with (fail)
          obtain ⟨B, hB⟩ : ∃ B, w.heap.size = B := ⟨_, rfl⟩
          have HBw := Lib.hid hB
          have HB1 := Lib.hid (heap_alloc_new (w.setCell ⟨lb, 0, none⟩ (.int .i64 (L - 1))) (.cells (cellJ (.mk 1 t ns ks) (.slice A1 ns.length c1n) (.slice A2 ks.length c2n)).toArray 40))
          have HG1 : Hid (GX [lb] w ((w.setCell ⟨lb, 0, none⟩ (.int .i64 (L - 1))).alloc (.cells (cellJ (.mk 1 t ns ks) (.slice A1 ns.length c1n) (.slice A2 ks.length c2n)).toArray 40))) := Lib.hid (((GX.refl [lb] w).set (by simp) _ _).reader ((Q.refl _).alloc _))
          have HL1 : Hid (LfB ((w.setCell ⟨lb, 0, none⟩ (.int .i64 (L - 1))).alloc (.cells (cellJ (.mk 1 t ns ks) (.slice A1 ns.length c1n) (.slice A2 ks.length c2n)).toArray 40)) lb (L - 1)) := Lib.hid (((Q.refl _).alloc _).block (by rw [heap_setCell_any w lb 0 _ _ _ _ H.out.lf]; rfl))
          have hsz : (w.setCell ⟨lb, 0, none⟩ (.int .i64 (L - 1))).heap.size = B := by rw [← hB]; simp
          obtain ⟨W1, hW1⟩ : ∃ W1, (w.setCell ⟨lb, 0, none⟩ (.int .i64 (L - 1))).alloc (.cells (cellJ (.mk 1 t ns ks) (.slice A1 ns.length c1n) (.slice A2 ks.length c2n)).toArray 40) = W1 := ⟨_, rfl⟩
          rw [hW1] at HB1 HG1 HL1
          rw [hsz] at HB1
          rw [hW1, hB]
          clear hW1 hB hsz clb flb
          have ck : W1.cell? ⟨B, 0, none⟩ = some (.int .i64 1) := by rw [cell_of_row _ _ _ _ _ _ HB1.out]; rfl
          have ct : W1.cell? ⟨B, 1, none⟩ = some (.string ⟨t.toArray⟩) := by rw [cell_of_row _ _ _ _ _ _ HB1.out]; rfl
          have cn : W1.cell? ⟨B, 2, none⟩ = some (.slice A1 ns.length c1n) := by rw [cell_of_row _ _ _ _ _ _ HB1.out]; rfl
          have cc : W1.cell? ⟨B, 3, none⟩ = some (.slice A2 ks.length c2n) := by rw [cell_of_row _ _ _ _ _ _ HB1.out]; rfl
          have mt : ∀ mm : QW W1, mm.val.cell? ⟨B, 1, none⟩ = some (.string ⟨t.toArray⟩) := fun mm => mm.cell ct
          have mn : ∀ mm : QW W1, mm.val.cell? ⟨B, 2, none⟩ = some (.slice A1 ns.length c1n) := fun mm => mm.cell cn
          have mc : ∀ mm : QW W1, mm.val.cell? ⟨B, 3, none⟩ = some (.slice A2 ks.length c2n) := fun mm => mm.cell cc
          refine wp_region_q (by kernel_rfl) (by kernel_rfl) ?_
          (repeat (go_big_quiet_step (fail)))
          refine wpQuiet_nil ?_
          rintro w2 ⟨m2, hm2⟩
          have hq2 : Q W1 w2 := by rw [hm2]; exact m2.le
          clear m2 hm2 mt mn mc
          have ck := hq2.cell ck
          have ct := hq2.cell ct
          have cn := hq2.cell cn
          have cc := hq2.cell cc
          have HG2 := Lib.hid (HG1.out.reader hq2)
          have HL2 : Hid (LfB w2 lb (L - 1)) := Lib.hid (hq2.block HL1.out)
          have HQ2 := Lib.hid hq2
          clear hq2
          go_wp2_with fail
          go_ret
          exact rt_end true HB.out (fun _ => HKS.out) HL0.out HG2.out HL2.out
        · have hte : List.isEmpty t = true := by simp [ht]
          have hke : decide (0 < ks.length) = false := by simp [hkz]
          have hne : decide (0 < ns.length) = true := by simp; exact List.length_pos_iff.2 hnz
          have HB : Hid (wfJ (.mk 1 t ns ks) d = false) := Lib.hid (by rw [wfJ]; simp [hnz])
          have HL0 := Lib.hid hL
          clear ht hkz hnz
          have clb : w.cell? ⟨lb, 0, none⟩ = some (.int .i64 L) := by rw [cell_of_row _ _ _ _ _ _ h.lf]; rfl
          have flb := frozen_of_row w lb 0 _ _ h.lf
          have hlt := lt_of_heap h.lf
          have g0 : decide (L - 1 < 0) = false := by simp; omega
          have gl1 : (0 : Int) ≤ L - 1 := by omega
          have H := Lib.hid h
          obtain ⟨⟨A1, c1n, rfl, _⟩, A2, c2n, rfl, _⟩ := jv_form h.jv
          clear h
          go_enter Tryd.func64, Tryd.ntmps64
          go_upto_region 4 with (fail)
          obtain ⟨B, hB⟩ : ∃ B, w.heap.size = B := ⟨_, rfl⟩
          have HBw := Lib.hid hB
          have HB1 := Lib.hid (heap_alloc_new (w.setCell ⟨lb, 0, none⟩ (.int .i64 (L - 1))) (.cells (cellJ (.mk 1 t ns ks) (.slice A1 ns.length c1n) (.slice A2 ks.length c2n)).toArray 40))
          have HG1 : Hid (GX [lb] w ((w.setCell ⟨lb, 0, none⟩ (.int .i64 (L - 1))).alloc (.cells (cellJ (.mk 1 t ns ks) (.slice A1 ns.length c1n) (.slice A2 ks.length c2n)).toArray 40))) := Lib.hid (((GX.refl [lb] w).set (by simp) _ _).reader ((Q.refl _).alloc _))
          have HL1 : Hid (LfB ((w.setCell ⟨lb, 0, none⟩ (.int .i64 (L - 1))).alloc (.cells (cellJ (.mk 1 t ns ks) (.slice A1 ns.length c1n) (.slice A2 ks.length c2n)).toArray 40)) lb (L - 1)) := Lib.hid (((Q.refl _).alloc _).block (by rw [heap_setCell_any w lb 0 _ _ _ _ H.out.lf]; rfl))
          have hsz : (w.setCell ⟨lb, 0, none⟩ (.int .i64 (L - 1))).heap.size = B := by rw [← hB]; simp
          obtain ⟨W1, hW1⟩ : ∃ W1, (w.setCell ⟨lb, 0, none⟩ (.int .i64 (L - 1))).alloc (.cells (cellJ (.mk 1 t ns ks) (.slice A1 ns.length c1n) (.slice A2 ks.length c2n)).toArray 40) = W1 := ⟨_, rfl⟩
          rw [hW1] at HB1 HG1 HL1
          rw [hsz] at HB1
          rw [hW1, hB]
          clear hW1 hB hsz clb flb
          have ck : W1.cell? ⟨B, 0, none⟩ = some (.int .i64 1) := by rw [cell_of_row _ _ _ _ _ _ HB1.out]; rfl
          have ct : W1.cell? ⟨B, 1, none⟩ = some (.string ⟨t.toArray⟩) := by rw [cell_of_row _ _ _ _ _ _ HB1.out]; rfl
          have cn : W1.cell? ⟨B, 2, none⟩ = some (.slice A1 ns.length c1n) := by rw [cell_of_row _ _ _ _ _ _ HB1.out]; rfl
          have cc : W1.cell? ⟨B, 3, none⟩ = some (.slice A2 ks.length c2n) := by rw [cell_of_row _ _ _ _ _ _ HB1.out]; rfl
          have mt : ∀ mm : QW W1, mm.val.cell? ⟨B, 1, none⟩ = some (.string ⟨t.toArray⟩) := fun mm => mm.cell ct
          have mn : ∀ mm : QW W1, mm.val.cell? ⟨B, 2, none⟩ = some (.slice A1 ns.length c1n) := fun mm => mm.cell cn
          have mc : ∀ mm : QW W1, mm.val.cell? ⟨B, 3, none⟩ = some (.slice A2 ks.length c2n) := fun mm => mm.cell cc
          refine wp_region_q (by kernel_rfl) (by kernel_rfl) ?_
          (repeat (go_big_quiet_step (fail)))
          refine wpQuiet_nil ?_
          rintro w2 ⟨m2, hm2⟩
          have hq2 : Q W1 w2 := by rw [hm2]; exact m2.le
          clear m2 hm2 mt mn mc
          have ck := hq2.cell ck
          have ct := hq2.cell ct
          have cn := hq2.cell cn
          have cc := hq2.cell cc
          have HG2 := Lib.hid (HG1.out.reader hq2)
          have HL2 : Hid (LfB w2 lb (L - 1)) := Lib.hid (hq2.block HL1.out)
          have HQ2 := Lib.hid hq2
          clear hq2
          go_wp2_with fail
          go_ret
          exact rt_end false HB.out (fun e => by cases e) HL0.out HG2.out HL2.out
      · have hte : List.isEmpty t = true := by simp [ht]
        have hke : decide (0 < ks.length) = true := by simp; exact List.length_pos_iff.2 hkz
        have HB : Hid (wfJ (.mk 1 t ns ks) d = false) := Lib.hid (by rw [wfJ]; simp [hkz])
        have HL0 := Lib.hid hL
        clear ht hkz
        have clb : w.cell? ⟨lb, 0, none⟩ = some (.int .i64 L) := by rw [cell_of_row _ _ _ _ _ _ h.lf]; rfl
        have flb := frozen_of_row w lb 0 _ _ h.lf
        have hlt := lt_of_heap h.lf
        have g0 : decide (L - 1 < 0) = false := by simp; omega
        have gl1 : (0 : Int) ≤ L - 1 := by omega
        have H := Lib.hid h
        obtain ⟨⟨A1, c1n, rfl, _⟩, A2, c2n, rfl, _⟩ := jv_form h.jv
        clear h
        go_enter Tryd.func64, Tryd.ntmps64
        go_upto_region 4 with (fail)
        obtain ⟨B, hB⟩ : ∃ B, w.heap.size = B := ⟨_, rfl⟩
        have HBw := Lib.hid hB
        have HB1 := Lib.hid (heap_alloc_new (w.setCell ⟨lb, 0, none⟩ (.int .i64 (L - 1))) (.cells (cellJ (.mk 1 t ns ks) (.slice A1 ns.length c1n) (.slice A2 ks.length c2n)).toArray 40))
        have HG1 : Hid (GX [lb] w ((w.setCell ⟨lb, 0, none⟩ (.int .i64 (L - 1))).alloc (.cells (cellJ (.mk 1 t ns ks) (.slice A1 ns.length c1n) (.slice A2 ks.length c2n)).toArray 40))) := Lib.hid (((GX.refl [lb] w).set (by simp) _ _).reader ((Q.refl _).alloc _))
        have HL1 : Hid (LfB ((w.setCell ⟨lb, 0, none⟩ (.int .i64 (L - 1))).alloc (.cells (cellJ (.mk 1 t ns ks) (.slice A1 ns.length c1n) (.slice A2 ks.length c2n)).toArray 40)) lb (L - 1)) := Lib.hid (((Q.refl _).alloc _).block (by rw [heap_setCell_any w lb 0 _ _ _ _ H.out.lf]; rfl))
        have hsz : (w.setCell ⟨lb, 0, none⟩ (.int .i64 (L - 1))).heap.size = B := by rw [← hB]; simp
        obtain ⟨W1, hW1⟩ : ∃ W1, (w.setCell ⟨lb, 0, none⟩ (.int .i64 (L - 1))).alloc (.cells (cellJ (.mk 1 t ns ks) (.slice A1 ns.length c1n) (.slice A2 ks.length c2n)).toArray 40) = W1 := ⟨_, rfl⟩
        rw [hW1] at HB1 HG1 HL1
        rw [hsz] at HB1
        rw [hW1, hB]
        clear hW1 hB hsz clb flb
        have ck : W1.cell? ⟨B, 0, none⟩ = some (.int .i64 1) := by rw [cell_of_row _ _ _ _ _ _ HB1.out]; rfl
        have ct : W1.cell? ⟨B, 1, none⟩ = some (.string ⟨t.toArray⟩) := by rw [cell_of_row _ _ _ _ _ _ HB1.out]; rfl
        have cn : W1.cell? ⟨B, 2, none⟩ = some (.slice A1 ns.length c1n) := by rw [cell_of_row _ _ _ _ _ _ HB1.out]; rfl
        have cc : W1.cell? ⟨B, 3, none⟩ = some (.slice A2 ks.length c2n) := by rw [cell_of_row _ _ _ _ _ _ HB1.out]; rfl
        have mt : ∀ mm : QW W1, mm.val.cell? ⟨B, 1, none⟩ = some (.string ⟨t.toArray⟩) := fun mm => mm.cell ct
        have mn : ∀ mm : QW W1, mm.val.cell? ⟨B, 2, none⟩ = some (.slice A1 ns.length c1n) := fun mm => mm.cell cn
        have mc : ∀ mm : QW W1, mm.val.cell? ⟨B, 3, none⟩ = some (.slice A2 ks.length c2n) := fun mm => mm.cell cc
        refine wp_region_q (by kernel_rfl) (by kernel_rfl) ?_
        (repeat (go_big_quiet_step (fail)))
        refine wpQuiet_nil ?_
        rintro w2 ⟨m2, hm2⟩
        have hq2 : Q W1 w2 := by rw [hm2]; exact m2.le
        clear m2 hm2 mt mn mc
        have ck := hq2.cell ck
        have ct := hq2.cell ct
        have cn := hq2.cell cn
        have cc := hq2.cell cc
        have HG2 := Lib.hid (HG1.out.reader hq2)
        have HL2 : Hid (LfB w2 lb (L - 1)) := Lib.hid (hq2.block HL1.out)
        have HQ2 := Lib.hid hq2
        clear hq2
        go_wp2_with fail
        go_ret
        exact rt_end false HB.out (fun e => by cases e) HL0.out HG2.out HL2.out
    · have hte : List.isEmpty t = false := by simp [ht]
      have HB : Hid (wfJ (.mk 1 t ns ks) d = false) := Lib.hid (by rw [wfJ]; simp [ht])
      have HL0 := Lib.hid hL
      clear ht
      have clb : w.cell? ⟨lb, 0, none⟩ = some (.int .i64 L) := by rw [cell_of_row _ _ _ _ _ _ h.lf]; rfl
      have flb := frozen_of_row w lb 0 _ _ h.lf
      have hlt := lt_of_heap h.lf
      have g0 : decide (L - 1 < 0) = false := by simp; omega
      have gl1 : (0 : Int) ≤ L - 1 := by omega
      have H := Lib.hid h
      obtain ⟨⟨A1, c1n, rfl, _⟩, A2, c2n, rfl, _⟩ := jv_form h.jv
      clear h
      go_enter Tryd.func64, Tryd.ntmps64
      go_upto_region 4 with (fail)
      obtain ⟨B, hB⟩ : ∃ B, w.heap.size = B := ⟨_, rfl⟩
      have HBw := Lib.hid hB
      have HB1 := Lib.hid (heap_alloc_new (w.setCell ⟨lb, 0, none⟩ (.int .i64 (L - 1))) (.cells (cellJ (.mk 1 t ns ks) (.slice A1 ns.length c1n) (.slice A2 ks.length c2n)).toArray 40))
      have HG1 : Hid (GX [lb] w ((w.setCell ⟨lb, 0, none⟩ (.int .i64 (L - 1))).alloc (.cells (cellJ (.mk 1 t ns ks) (.slice A1 ns.length c1n) (.slice A2 ks.length c2n)).toArray 40))) := Lib.hid (((GX.refl [lb] w).set (by simp) _ _).reader ((Q.refl _).alloc _))
      have HL1 : Hid (LfB ((w.setCell ⟨lb, 0, none⟩ (.int .i64 (L - 1))).alloc (.cells (cellJ (.mk 1 t ns ks) (.slice A1 ns.length c1n) (.slice A2 ks.length c2n)).toArray 40)) lb (L - 1)) := Lib.hid (((Q.refl _).alloc _).block (by rw [heap_setCell_any w lb 0 _ _ _ _ H.out.lf]; rfl))
      have hsz : (w.setCell ⟨lb, 0, none⟩ (.int .i64 (L - 1))).heap.size = B := by rw [← hB]; simp
      obtain ⟨W1, hW1⟩ : ∃ W1, (w.setCell ⟨lb, 0, none⟩ (.int .i64 (L - 1))).alloc (.cells (cellJ (.mk 1 t ns ks) (.slice A1 ns.length c1n) (.slice A2 ks.length c2n)).toArray 40) = W1 := ⟨_, rfl⟩
      rw [hW1] at HB1 HG1 HL1
      rw [hsz] at HB1
      rw [hW1, hB]
      clear hW1 hB hsz clb flb
      have ck : W1.cell? ⟨B, 0, none⟩ = some (.int .i64 1) := by rw [cell_of_row _ _ _ _ _ _ HB1.out]; rfl
      have ct : W1.cell? ⟨B, 1, none⟩ = some (.string ⟨t.toArray⟩) := by rw [cell_of_row _ _ _ _ _ _ HB1.out]; rfl
      have cn : W1.cell? ⟨B, 2, none⟩ = some (.slice A1 ns.length c1n) := by rw [cell_of_row _ _ _ _ _ _ HB1.out]; rfl
      have cc : W1.cell? ⟨B, 3, none⟩ = some (.slice A2 ks.length c2n) := by rw [cell_of_row _ _ _ _ _ _ HB1.out]; rfl
      have mt : ∀ mm : QW W1, mm.val.cell? ⟨B, 1, none⟩ = some (.string ⟨t.toArray⟩) := fun mm => mm.cell ct
      have mn : ∀ mm : QW W1, mm.val.cell? ⟨B, 2, none⟩ = some (.slice A1 ns.length c1n) := fun mm => mm.cell cn
      have mc : ∀ mm : QW W1, mm.val.cell? ⟨B, 3, none⟩ = some (.slice A2 ks.length c2n) := fun mm => mm.cell cc
      refine wp_region_q (by kernel_rfl) (by kernel_rfl) ?_
      (repeat (go_big_quiet_step (fail)))
      refine wpQuiet_nil ?_
      rintro w2 ⟨m2, hm2⟩
      have hq2 : Q W1 w2 := by rw [hm2]; exact m2.le
      clear m2 hm2 mt mn mc
      have ck := hq2.cell ck
      have ct := hq2.cell ct
      have cn := hq2.cell cn
      have cc := hq2.cell cc
      have HG2 := Lib.hid (HG1.out.reader hq2)
      have HL2 : Hid (LfB w2 lb (L - 1)) := Lib.hid (hq2.block HL1.out)
      have HQ2 := Lib.hid hq2
      clear hq2
      go_wp2_with fail
      go_ret
      exact rt_end false HB.out (fun e => by cases e) HL0.out HG2.out HL2.out
set_option maxRecDepth 100000 in
theorem right_2 (t : Txt) (ns : List Txt) (ks : List JsonD) (d : Nat) (wJ w : World) (vn vk : Value) (lb : Nat) (L : Int) (h : RtH (.mk 2 t ns ks) wJ w vn vk lb L) (hL : 1 ≤ L) (hL2 : L ≤ 8000) (D : Int) :
    Calls Tryd.prog 64 #[.agg (cellJ (.mk 2 t ns ks) vn vk).toArray, .int .i64 D, .pointer (some ⟨lb, 0, none⟩)] w (RtP (.mk 2 t ns ks) d L lb w) := by
  have hI := True.intro
  all_goals
    by_cases ht : t = []
    · by_cases hkz : ks = []
      · by_cases hnz : ns = []
        · have hte : List.isEmpty t = true := by simp [ht]
          have hke : decide (0 < ks.length) = false := by simp [hkz]
          have hne : decide (0 < ns.length) = false := by simp [hnz]
          have HB : Hid (wfJ (.mk 2 t ns ks) d = true) := Lib.hid (by rw [wfJ]; simp [ht, hkz, hnz])
          have HL0 := Lib.hid hL
          have HKS := Lib.hid hkz
          clear ht hkz hnz
          have clb : w.cell? ⟨lb, 0, none⟩ = some (.int .i64 L) := by rw [cell_of_row _ _ _ _ _ _ h.lf]; rfl
          have flb := frozen_of_row w lb 0 _ _ h.lf
          have hlt := lt_of_heap h.lf
          have g0 : decide (L - 1 < 0) = false := by simp; omega
          have gl1 : (0 : Int) ≤ L - 1 := by omega
          have H := Lib.hid h
          obtain ⟨⟨A1, c1n, rfl, _⟩, A2, c2n, rfl, _⟩ := jv_form h.jv
          clear h
          go_enter Tryd.func64, Tryd.ntmps64
          go_upto_region 4 with (fail)
          obtain ⟨B, hB⟩ : ∃ B, w.heap.size = B := ⟨_, rfl⟩
          have HBw := Lib.hid hB
          have HB1 := Lib.hid (heap_alloc_new (w.setCell ⟨lb, 0, none⟩ (.int .i64 (L - 1))) (.cells (cellJ (.mk 2 t ns ks) (.slice A1 ns.length c1n) (.slice A2 ks.length c2n)).toArray 40))
          have HG1 : Hid (GX [lb] w ((w.setCell ⟨lb, 0, none⟩ (.int .i64 (L - 1))).alloc (.cells (cellJ (.mk 2 t ns ks) (.slice A1 ns.length c1n) (.slice A2 ks.length c2n)).toArray 40))) := Lib.hid (((GX.refl [lb] w).set (by simp) _ _).reader ((Q.refl _).alloc _))
          have HL1 : Hid (LfB ((w.setCell ⟨lb, 0, none⟩ (.int .i64 (L - 1))).alloc (.cells (cellJ (.mk 2 t ns ks) (.slice A1 ns.length c1n) (.slice A2 ks.length c2n)).toArray 40)) lb (L - 1)) := Lib.hid (((Q.refl _).alloc _).block (by rw [heap_setCell_any w lb 0 _ _ _ _ H.out.lf]; rfl))
          have hsz : (w.setCell ⟨lb, 0, none⟩ (.int .i64 (L - 1))).heap.size = B := by rw [← hB]; simp
          obtain ⟨W1, hW1⟩ : ∃ W1, (w.setCell ⟨lb, 0, none⟩ (.int .i64 (L - 1))).alloc (.cells (cellJ (.mk 2 t ns ks) (.slice A1 ns.length c1n) (.slice A2 ks.length c2n)).toArray 40) = W1 := ⟨_, rfl⟩
          rw [hW1] at HB1 HG1 HL1
          rw [hsz] at HB1
          rw [hW1, hB]
          clear hW1 hB hsz clb flb
          have ck : W1.cell? ⟨B, 0, none⟩ = some (.int .i64 2) := by rw [cell_of_row _ _ _ _ _ _ HB1.out]; rfl
          have ct : W1.cell? ⟨B, 1, none⟩ = some (.string ⟨t.toArray⟩) := by rw [cell_of_row _ _ _ _ _ _ HB1.out]; rfl
          have cn : W1.cell? ⟨B, 2, none⟩ = some (.slice A1 ns.length c1n) := by rw [cell_of_row _ _ _ _ _ _ HB1.out]; rfl
          have cc : W1.cell? ⟨B, 3, none⟩ = some (.slice A2 ks.length c2n) := by rw [cell_of_row _ _ _ _ _ _ HB1.out]; rfl
          have mt : ∀ mm : QW W1, mm.val.cell? ⟨B, 1, none⟩ = some (.string ⟨t.toArray⟩) := fun mm => mm.cell ct
          have mn : ∀ mm : QW W1, mm.val.cell? ⟨B, 2, none⟩ = some (.slice A1 ns.length c1n) := fun mm => mm.cell cn
          have mc : ∀ mm : QW W1, mm.val.cell? ⟨B, 3, none⟩ = some (.slice A2 ks.length c2n) := fun mm => mm.cell cc
          refine wp_region_q (by kernel_rfl) (by kernel_rfl) ?_
          (repeat (go_big_quiet_step (fail)))
          refine wpQuiet_nil ?_
          rintro w2 ⟨m2, hm2⟩
          have hq2 : Q W1 w2 := by rw [hm2]; exact m2.le
          clear m2 hm2 mt mn mc
          have ck := hq2.cell ck
          have ct := hq2.cell ct
          have cn := hq2.cell cn
          have cc := hq2.cell cc
          have HG2 := Lib.hid (HG1.out.reader hq2)
          have HL2 : Hid (LfB w2 lb (L - 1)) := Lib.hid (hq2.block HL1.out)
          have HQ2 := Lib.hid hq2
          clear hq2
          go_wp2_with fail
          go_ret
          exact rt_end true HB.out (fun _ => HKS.out) HL0.out HG2.out HL2.out
        · have hte : List.isEmpty t = true := by simp [ht]
          have hke : decide (0 < ks.length) = false := by simp [hkz]
          have hne : decide (0 < ns.length) = true := by simp; exact List.length_pos_iff.2 hnz
          have HB : Hid (wfJ (.mk 2 t ns ks) d = false) := Lib.hid (by rw [wfJ]; simp [hnz])
          have HL0 := Lib.hid hL
          clear ht hkz hnz
          have clb : w.cell? ⟨lb, 0, none⟩ = some (.int .i64 L) := by rw [cell_of_row _ _ _ _ _ _ h.lf]; rfl
          have flb := frozen_of_row w lb 0 _ _ h.lf
          have hlt := lt_of_heap h.lf
          have g0 : decide (L - 1 < 0) = false := by simp; omega
          have gl1 : (0 : Int) ≤ L - 1 := by omega
          have H := Lib.hid h
          obtain ⟨⟨A1, c1n, rfl, _⟩, A2, c2n, rfl, _⟩ := jv_form h.jv
          clear h
          go_enter Tryd.func64, Tryd.ntmps64
          go_upto_region 4 with (fail)
          obtain ⟨B, hB⟩ : ∃ B, w.heap.size = B := ⟨_, rfl⟩
          have HBw := Lib.hid hB
          have HB1 := Lib.hid (heap_alloc_new (w.setCell ⟨lb, 0, none⟩ (.int .i64 (L - 1))) (.cells (cellJ (.mk 2 t ns ks) (.slice A1 ns.length c1n) (.slice A2 ks.length c2n)).toArray 40))
          have HG1 : Hid (GX [lb] w ((w.setCell ⟨lb, 0, none⟩ (.int .i64 (L - 1))).alloc (.cells (cellJ (.mk 2 t ns ks) (.slice A1 ns.length c1n) (.slice A2 ks.length c2n)).toArray 40))) := Lib.hid (((GX.refl [lb] w).set (by simp) _ _).reader ((Q.refl _).alloc _))
          have HL1 : Hid (LfB ((w.setCell ⟨lb, 0, none⟩ (.int .i64 (L - 1))).alloc (.cells (cellJ (.mk 2 t ns ks) (.slice A1 ns.length c1n) (.slice A2 ks.length c2n)).toArray 40)) lb (L - 1)) := Lib.hid (((Q.refl _).alloc _).block (by rw [heap_setCell_any w lb 0 _ _ _ _ H.out.lf]; rfl))
          have hsz : (w.setCell ⟨lb, 0, none⟩ (.int .i64 (L - 1))).heap.size = B := by rw [← hB]; simp
          obtain ⟨W1, hW1⟩ : ∃ W1, (w.setCell ⟨lb, 0, none⟩ (.int .i64 (L - 1))).alloc (.cells (cellJ (.mk 2 t ns ks) (.slice A1 ns.length c1n) (.slice A2 ks.length c2n)).toArray 40) = W1 := ⟨_, rfl⟩
          rw [hW1] at HB1 HG1 HL1
          rw [hsz] at HB1
          rw [hW1, hB]
          clear hW1 hB hsz clb flb
          have ck : W1.cell? ⟨B, 0, none⟩ = some (.int .i64 2) := by rw [cell_of_row _ _ _ _ _ _ HB1.out]; rfl
          have ct : W1.cell? ⟨B, 1, none⟩ = some (.string ⟨t.toArray⟩) := by rw [cell_of_row _ _ _ _ _ _ HB1.out]; rfl
          have cn : W1.cell? ⟨B, 2, none⟩ = some (.slice A1 ns.length c1n) := by rw [cell_of_row _ _ _ _ _ _ HB1.out]; rfl
          have cc : W1.cell? ⟨B, 3, none⟩ = some (.slice A2 ks.length c2n) := by rw [cell_of_row _ _ _ _ _ _ HB1.out]; rfl
          have mt : ∀ mm : QW W1, mm.val.cell? ⟨B, 1, none⟩ = some (.string ⟨t.toArray⟩) := fun mm => mm.cell ct
          have mn : ∀ mm : QW W1, mm.val.cell? ⟨B, 2, none⟩ = some (.slice A1 ns.length c1n) := fun mm => mm.cell cn
          have mc : ∀ mm : QW W1, mm.val.cell? ⟨B, 3, none⟩ = some (.slice A2 ks.length c2n) := fun mm => mm.cell cc
          refine wp_region_q (by kernel_rfl) (by kernel_rfl) ?_
          (repeat (go_big_quiet_step (fail)))
          refine wpQuiet_nil ?_
          rintro w2 ⟨m2, hm2⟩
          have hq2 : Q W1 w2 := by rw [hm2]; exact m2.le
          clear m2 hm2 mt mn mc
          have ck := hq2.cell ck
          have ct := hq2.cell ct
          have cn := hq2.cell cn
          have cc := hq2.cell cc
          have HG2 := Lib.hid (HG1.out.reader hq2)
          have HL2 : Hid (LfB w2 lb (L - 1)) := Lib.hid (hq2.block HL1.out)
          have HQ2 := Lib.hid hq2
          clear hq2
          go_wp2_with fail
          go_ret
          exact rt_end false HB.out (fun e => by cases e) HL0.out HG2.out HL2.out
      · have hte : List.isEmpty t = true := by simp [ht]
        have hke : decide (0 < ks.length) = true := by simp; exact List.length_pos_iff.2 hkz
        have HB : Hid (wfJ (.mk 2 t ns ks) d = false) := Lib.hid (by rw [wfJ]; simp [hkz])
        have HL0 := Lib.hid hL
        clear ht hkz
        have clb : w.cell? ⟨lb, 0, none⟩ = some (.int .i64 L) := by rw [cell_of_row _ _ _ _ _ _ h.lf]; rfl
        have flb := frozen_of_row w lb 0 _ _ h.lf
        have hlt := lt_of_heap h.lf
        have g0 : decide (L - 1 < 0) = false := by simp; omega
        have gl1 : (0 : Int) ≤ L - 1 := by omega
        have H := Lib.hid h
        obtain ⟨⟨A1, c1n, rfl, _⟩, A2, c2n, rfl, _⟩ := jv_form h.jv
        clear h
        go_enter Tryd.func64, Tryd.ntmps64
        go_upto_region 4 with (fail)
        obtain ⟨B, hB⟩ : ∃ B, w.heap.size = B := ⟨_, rfl⟩
        have HBw := Lib.hid hB
        have HB1 := Lib.hid (heap_alloc_new (w.setCell ⟨lb, 0, none⟩ (.int .i64 (L - 1))) (.cells (cellJ (.mk 2 t ns ks) (.slice A1 ns.length c1n) (.slice A2 ks.length c2n)).toArray 40))
        have HG1 : Hid (GX [lb] w ((w.setCell ⟨lb, 0, none⟩ (.int .i64 (L - 1))).alloc (.cells (cellJ (.mk 2 t ns ks) (.slice A1 ns.length c1n) (.slice A2 ks.length c2n)).toArray 40))) := Lib.hid (((GX.refl [lb] w).set (by simp) _ _).reader ((Q.refl _).alloc _))
        have HL1 : Hid (LfB ((w.setCell ⟨lb, 0, none⟩ (.int .i64 (L - 1))).alloc (.cells (cellJ (.mk 2 t ns ks) (.slice A1 ns.length c1n) (.slice A2 ks.length c2n)).toArray 40)) lb (L - 1)) := Lib.hid (((Q.refl _).alloc _).block (by rw [heap_setCell_any w lb 0 _ _ _ _ H.out.lf]; rfl))
        have hsz : (w.setCell ⟨lb, 0, none⟩ (.int .i64 (L - 1))).heap.size = B := by rw [← hB]; simp
        obtain ⟨W1, hW1⟩ : ∃ W1, (w.setCell ⟨lb, 0, none⟩ (.int .i64 (L - 1))).alloc (.cells (cellJ (.mk 2 t ns ks) (.slice A1 ns.length c1n) (.slice A2 ks.length c2n)).toArray 40) = W1 := ⟨_, rfl⟩
        rw [hW1] at HB1 HG1 HL1
        rw [hsz] at HB1
        rw [hW1, hB]
        clear hW1 hB hsz clb flb
        have ck : W1.cell? ⟨B, 0, none⟩ = some (.int .i64 2) := by rw [cell_of_row _ _ _ _ _ _ HB1.out]; rfl
        have ct : W1.cell? ⟨B, 1, none⟩ = some (.string ⟨t.toArray⟩) := by rw [cell_of_row _ _ _ _ _ _ HB1.out]; rfl
        have cn : W1.cell? ⟨B, 2, none⟩ = some (.slice A1 ns.length c1n) := by rw [cell_of_row _ _ _ _ _ _ HB1.out]; rfl
        have cc : W1.cell? ⟨B, 3, none⟩ = some (.slice A2 ks.length c2n) := by rw [cell_of_row _ _ _ _ _ _ HB1.out]; rfl
        have mt : ∀ mm : QW W1, mm.val.cell? ⟨B, 1, none⟩ = some (.string ⟨t.toArray⟩) := fun mm => mm.cell ct
        have mn : ∀ mm : QW W1, mm.val.cell? ⟨B, 2, none⟩ = some (.slice A1 ns.length c1n) := fun mm => mm.cell cn
        have mc : ∀ mm : QW W1, mm.val.cell? ⟨B, 3, none⟩ = some (.slice A2 ks.length c2n) := fun mm => mm.cell cc
        refine wp_region_q (by kernel_rfl) (by kernel_rfl) ?_
        (repeat (go_big_quiet_step (fail)))
        refine wpQuiet_nil ?_
        rintro w2 ⟨m2, hm2⟩
        have hq2 : Q W1 w2 := by rw [hm2]; exact m2.le
        clear m2 hm2 mt mn mc
        have ck := hq2.cell ck
        have ct := hq2.cell ct
        have cn := hq2.cell cn
        have cc := hq2.cell cc
        have HG2 := Lib.hid (HG1.out.reader hq2)
        have HL2 : Hid (LfB w2 lb (L - 1)) := Lib.hid (hq2.block HL1.out)
        have HQ2 := Lib.hid hq2
        clear hq2
        go_wp2_with fail
        go_ret
        exact rt_end false HB.out (fun e => by cases e) HL0.out HG2.out HL2.out
    · have hte : List.isEmpty t = false := by simp [ht]
      have HB : Hid (wfJ (.mk 2 t ns ks) d = false) := Lib.hid (by rw [wfJ]; simp [ht])
      have HL0 := Lib.hid hL
      clear ht
      have clb : w.cell? ⟨lb, 0, none⟩ = some (.int .i64 L) := by rw [cell_of_row _ _ _ _ _ _ h.lf]; rfl
      have flb := frozen_of_row w lb 0 _ _ h.lf
      have hlt := lt_of_heap h.lf
      have g0 : decide (L - 1 < 0) = false := by simp; omega
      have gl1 : (0 : Int) ≤ L - 1 := by omega
      have H := Lib.hid h
      obtain ⟨⟨A1, c1n, rfl, _⟩, A2, c2n, rfl, _⟩ := jv_form h.jv
      clear h
      go_enter Tryd.func64, Tryd.ntmps64
      go_upto_region 4 with (fail)
      obtain ⟨B, hB⟩ : ∃ B, w.heap.size = B := ⟨_, rfl⟩
      have HBw := Lib.hid hB
      have HB1 := Lib.hid (heap_alloc_new (w.setCell ⟨lb, 0, none⟩ (.int .i64 (L - 1))) (.cells (cellJ (.mk 2 t ns ks) (.slice A1 ns.length c1n) (.slice A2 ks.length c2n)).toArray 40))
      have HG1 : Hid (GX [lb] w ((w.setCell ⟨lb, 0, none⟩ (.int .i64 (L - 1))).alloc (.cells (cellJ (.mk 2 t ns ks) (.slice A1 ns.length c1n) (.slice A2 ks.length c2n)).toArray 40))) := Lib.hid (((GX.refl [lb] w).set (by simp) _ _).reader ((Q.refl _).alloc _))
      have HL1 : Hid (LfB ((w.setCell ⟨lb, 0, none⟩ (.int .i64 (L - 1))).alloc (.cells (cellJ (.mk 2 t ns ks) (.slice A1 ns.length c1n) (.slice A2 ks.length c2n)).toArray 40)) lb (L - 1)) := Lib.hid (((Q.refl _).alloc _).block (by rw [heap_setCell_any w lb 0 _ _ _ _ H.out.lf]; rfl))
      have hsz : (w.setCell ⟨lb, 0, none⟩ (.int .i64 (L - 1))).heap.size = B := by rw [← hB]; simp
      obtain ⟨W1, hW1⟩ : ∃ W1, (w.setCell ⟨lb, 0, none⟩ (.int .i64 (L - 1))).alloc (.cells (cellJ (.mk 2 t ns ks) (.slice A1 ns.length c1n) (.slice A2 ks.length c2n)).toArray 40) = W1 := ⟨_, rfl⟩
      rw [hW1] at HB1 HG1 HL1
      rw [hsz] at HB1
      rw [hW1, hB]
      clear hW1 hB hsz clb flb
      have ck : W1.cell? ⟨B, 0, none⟩ = some (.int .i64 2) := by rw [cell_of_row _ _ _ _ _ _ HB1.out]; rfl
      have ct : W1.cell? ⟨B, 1, none⟩ = some (.string ⟨t.toArray⟩) := by rw [cell_of_row _ _ _ _ _ _ HB1.out]; rfl
      have cn : W1.cell? ⟨B, 2, none⟩ = some (.slice A1 ns.length c1n) := by rw [cell_of_row _ _ _ _ _ _ HB1.out]; rfl
      have cc : W1.cell? ⟨B, 3, none⟩ = some (.slice A2 ks.length c2n) := by rw [cell_of_row _ _ _ _ _ _ HB1.out]; rfl
      have mt : ∀ mm : QW W1, mm.val.cell? ⟨B, 1, none⟩ = some (.string ⟨t.toArray⟩) := fun mm => mm.cell ct
      have mn : ∀ mm : QW W1, mm.val.cell? ⟨B, 2, none⟩ = some (.slice A1 ns.length c1n) := fun mm => mm.cell cn
      have mc : ∀ mm : QW W1, mm.val.cell? ⟨B, 3, none⟩ = some (.slice A2 ks.length c2n) := fun mm => mm.cell cc
      refine wp_region_q (by kernel_rfl) (by kernel_rfl) ?_
      (repeat (go_big_quiet_step (fail)))
      refine wpQuiet_nil ?_
      rintro w2 ⟨m2, hm2⟩
      have hq2 : Q W1 w2 := by rw [hm2]; exact m2.le
      clear m2 hm2 mt mn mc
      have ck := hq2.cell ck
      have ct := hq2.cell ct
      have cn := hq2.cell cn
      have cc := hq2.cell cc
      have HG2 := Lib.hid (HG1.out.reader hq2)
      have HL2 : Hid (LfB w2 lb (L - 1)) := Lib.hid (hq2.block HL1.out)
      have HQ2 := Lib.hid hq2
      clear hq2
      go_wp2_with fail
      go_ret
      exact rt_end false HB.out (fun e => by cases e) HL0.out HG2.out HL2.out
set_option maxRecDepth 100000 in
theorem right_3 (t : Txt) (ns : List Txt) (ks : List JsonD) (d : Nat) (wJ w : World) (vn vk : Value) (lb : Nat) (L : Int) (h : RtH (.mk 3 t ns ks) wJ w vn vk lb L) (hL : 1 ≤ L) (hL2 : L ≤ 8000) (D : Int) :
    Calls Tryd.prog 64 #[.agg (cellJ (.mk 3 t ns ks) vn vk).toArray, .int .i64 D, .pointer (some ⟨lb, 0, none⟩)] w (RtP (.mk 3 t ns ks) d L lb w) := by
  have hI := True.intro
  all_goals
    by_cases ht : t = []
    · by_cases hkz : ks = []
      · by_cases hnz : ns = []
        · have hte : List.isEmpty t = true := by simp [ht]
          have hke : decide (0 < ks.length) = false := by simp [hkz]
          have hne : decide (0 < ns.length) = false := by simp [hnz]
          have HB : Hid (wfJ (.mk 3 t ns ks) d = true) := Lib.hid (by rw [wfJ]; simp [ht, hkz, hnz])
          have HL0 := Lib.hid hL
          have HKS := Lib.hid hkz
          clear ht hkz hnz
          have clb : w.cell? ⟨lb, 0, none⟩ = some (.int .i64 L) := by rw [cell_of_row _ _ _ _ _ _ h.lf]; rfl
          have flb := frozen_of_row w lb 0 _ _ h.lf
          have hlt := lt_of_heap h.lf
          have g0 : decide (L - 1 < 0) = false := by simp; omega
          have gl1 : (0 : Int) ≤ L - 1 := by omega
          have H := Lib.hid h
          obtain ⟨⟨A1, c1n, rfl, _⟩, A2, c2n, rfl, _⟩ := jv_form h.jv
          clear h
          go_enter Tryd.func64, Tryd.ntmps64
          go_upto_region 4 with (fail)
          obtain ⟨B, hB⟩ : ∃ B, w.heap.size = B := ⟨_, rfl⟩
          have HBw := Lib.hid hB
          have HB1 := Lib.hid (heap_alloc_new (w.setCell ⟨lb, 0, none⟩ (.int .i64 (L - 1))) (.cells (cellJ (.mk 3 t ns ks) (.slice A1 ns.length c1n) (.slice A2 ks.length c2n)).toArray 40))
          have HG1 : Hid (GX [lb] w ((w.setCell ⟨lb, 0, none⟩ (.int .i64 (L - 1))).alloc (.cells (cellJ (.mk 3 t ns ks) (.slice A1 ns.length c1n) (.slice A2 ks.length c2n)).toArray 40))) := Lib.hid (((GX.refl [lb] w).set (by simp) _ _).reader ((Q.refl _).alloc _))
          have HL1 : Hid (LfB ((w.setCell ⟨lb, 0, none⟩ (.int .i64 (L - 1))).alloc (.cells (cellJ (.mk 3 t ns ks) (.slice A1 ns.length c1n) (.slice A2 ks.length c2n)).toArray 40)) lb (L - 1)) := Lib.hid (((Q.refl _).alloc _).block (by rw [heap_setCell_any w lb 0 _ _ _ _ H.out.lf]; rfl))
          have hsz : (w.setCell ⟨lb, 0, none⟩ (.int .i64 (L - 1))).heap.size = B := by rw [← hB]; simp
          obtain ⟨W1, hW1⟩ : ∃ W1, (w.setCell ⟨lb, 0, none⟩ (.int .i64 (L - 1))).alloc (.cells (cellJ (.mk 3 t ns ks) (.slice A1 ns.length c1n) (.slice A2 ks.length c2n)).toArray 40) = W1 := ⟨_, rfl⟩
          rw [hW1] at HB1 HG1 HL1
          rw [hsz] at HB1
          rw [hW1, hB]
          clear hW1 hB hsz clb flb
          have ck : W1.cell? ⟨B, 0, none⟩ = some (.int .i64 3) := by rw [cell_of_row _ _ _ _ _ _ HB1.out]; rfl
          have ct : W1.cell? ⟨B, 1, none⟩ = some (.string ⟨t.toArray⟩) := by rw [cell_of_row _ _ _ _ _ _ HB1.out]; rfl
          have cn : W1.cell? ⟨B, 2, none⟩ = some (.slice A1 ns.length c1n) := by rw [cell_of_row _ _ _ _ _ _ HB1.out]; rfl
          have cc : W1.cell? ⟨B, 3, none⟩ = some (.slice A2 ks.length c2n) := by rw [cell_of_row _ _ _ _ _ _ HB1.out]; rfl
          have mt : ∀ mm : QW W1, mm.val.cell? ⟨B, 1, none⟩ = some (.string ⟨t.toArray⟩) := fun mm => mm.cell ct
          have mn : ∀ mm : QW W1, mm.val.cell? ⟨B, 2, none⟩ = some (.slice A1 ns.length c1n) := fun mm => mm.cell cn
          have mc : ∀ mm : QW W1, mm.val.cell? ⟨B, 3, none⟩ = some (.slice A2 ks.length c2n) := fun mm => mm.cell cc
          refine wp_region_q (by kernel_rfl) (by kernel_rfl) ?_
          (repeat (go_big_quiet_step (fail)))
          refine wpQuiet_nil ?_
          rintro w2 ⟨m2, hm2⟩
          have hq2 : Q W1 w2 := by rw [hm2]; exact m2.le
          clear m2 hm2 mt mn mc
          have ck := hq2.cell ck
          have ct := hq2.cell ct
          have cn := hq2.cell cn
          have cc := hq2.cell cc
          have HG2 := Lib.hid (HG1.out.reader hq2)
          have HL2 : Hid (LfB w2 lb (L - 1)) := Lib.hid (hq2.block HL1.out)
          have HQ2 := Lib.hid hq2
          clear hq2
          go_wp2_with fail
          go_ret
          exact rt_end true HB.out (fun _ => HKS.out) HL0.out HG2.out HL2.out
        · have hte : List.isEmpty t = true := by simp [ht]
          have hke : decide (0 < ks.length) = false := by simp [hkz]
          have hne : decide (0 < ns.length) = true := by simp; exact List.length_pos_iff.2 hnz
          have HB : Hid (wfJ (.mk 3 t ns ks) d = false) := Lib.hid (by rw [wfJ]; simp [hnz])
          have HL0 := Lib.hid hL
          clear ht hkz hnz
          have clb : w.cell? ⟨lb, 0, none⟩ = some (.int .i64 L) := by rw [cell_of_row _ _ _ _ _ _ h.lf]; rfl
          have flb := frozen_of_row w lb 0 _ _ h.lf
          have hlt := lt_of_heap h.lf
          have g0 : decide (L - 1 < 0) = false := by simp; omega
          have gl1 : (0 : Int) ≤ L - 1 := by omega
          have H := Lib.hid h
          obtain ⟨⟨A1, c1n, rfl, _⟩, A2, c2n, rfl, _⟩ := jv_form h.jv
          clear h
          go_enter Tryd.func64, Tryd.ntmps64
          go_upto_region 4 with (fail)
          obtain ⟨B, hB⟩ : ∃ B, w.heap.size = B := ⟨_, rfl⟩
          have HBw := Lib.hid hB
          have HB1 := Lib.hid (heap_alloc_new (w.setCell ⟨lb, 0, none⟩ (.int .i64 (L - 1))) (.cells (cellJ (.mk 3 t ns ks) (.slice A1 ns.length c1n) (.slice A2 ks.length c2n)).toArray 40))
          have HG1 : Hid (GX [lb] w ((w.setCell ⟨lb, 0, none⟩ (.int .i64 (L - 1))).alloc (.cells (cellJ (.mk 3 t ns ks) (.slice A1 ns.length c1n) (.slice A2 ks.length c2n)).toArray 40))) := Lib.hid (((GX.refl [lb] w).set (by simp) _ _).reader ((Q.refl _).alloc _))
          have HL1 : Hid (LfB ((w.setCell ⟨lb, 0, none⟩ (.int .i64 (L - 1))).alloc (.cells (cellJ (.mk 3 t ns ks) (.slice A1 ns.length c1n) (.slice A2 ks.length c2n)).toArray 40)) lb (L - 1)) := Lib.hid (((Q.refl _).alloc _).block (by rw [heap_setCell_any w lb 0 _ _ _ _ H.out.lf]; rfl))
          have hsz : (w.setCell ⟨lb, 0, none⟩ (.int .i64 (L - 1))).heap.size = B := by rw [← hB]; simp
          obtain ⟨W1, hW1⟩ : ∃ W1, (w.setCell ⟨lb, 0, none⟩ (.int .i64 (L - 1))).alloc (.cells (cellJ (.mk 3 t ns ks) (.slice A1 ns.length c1n) (.slice A2 ks.length c2n)).toArray 40) = W1 := ⟨_, rfl⟩
          rw [hW1] at HB1 HG1 HL1
          rw [hsz] at HB1
          rw [hW1, hB]
          clear hW1 hB hsz clb flb
          have ck : W1.cell? ⟨B, 0, none⟩ = some (.int .i64 3) := by rw [cell_of_row _ _ _ _ _ _ HB1.out]; rfl
          have ct : W1.cell? ⟨B, 1, none⟩ = some (.string ⟨t.toArray⟩) := by rw [cell_of_row _ _ _ _ _ _ HB1.out]; rfl
          have cn : W1.cell? ⟨B, 2, none⟩ = some (.slice A1 ns.length c1n) := by rw [cell_of_row _ _ _ _ _ _ HB1.out]; rfl
          have cc : W1.cell? ⟨B, 3, none⟩ = some (.slice A2 ks.length c2n) := by rw [cell_of_row _ _ _ _ _ _ HB1.out]; rfl
          have mt : ∀ mm : QW W1, mm.val.cell? ⟨B, 1, none⟩ = some (.string ⟨t.toArray⟩) := fun mm => mm.cell ct
          have mn : ∀ mm : QW W1, mm.val.cell? ⟨B, 2, none⟩ = some (.slice A1 ns.length c1n) := fun mm => mm.cell cn
          have mc : ∀ mm : QW W1, mm.val.cell? ⟨B, 3, none⟩ = some (.slice A2 ks.length c2n) := fun mm => mm.cell cc
          refine wp_region_q (by kernel_rfl) (by kernel_rfl) ?_
          (repeat (go_big_quiet_step (fail)))
          refine wpQuiet_nil ?_
          rintro w2 ⟨m2, hm2⟩
          have hq2 : Q W1 w2 := by rw [hm2]; exact m2.le
          clear m2 hm2 mt mn mc
          have ck := hq2.cell ck
          have ct := hq2.cell ct
          have cn := hq2.cell cn
          have cc := hq2.cell cc
          have HG2 := Lib.hid (HG1.out.reader hq2)
          have HL2 : Hid (LfB w2 lb (L - 1)) := Lib.hid (hq2.block HL1.out)
          have HQ2 := Lib.hid hq2
          clear hq2
          go_wp2_with fail
          go_ret
          exact rt_end false HB.out (fun e => by cases e) HL0.out HG2.out HL2.out
      · have hte : List.isEmpty t = true := by simp [ht]
        have hke : decide (0 < ks.length) = true := by simp; exact List.length_pos_iff.2 hkz
        have HB : Hid (wfJ (.mk 3 t ns ks) d = false) := Lib.hid (by rw [wfJ]; simp [hkz])
        have HL0 := Lib.hid hL
        clear ht hkz
        have clb : w.cell? ⟨lb, 0, none⟩ = some (.int .i64 L) := by rw [cell_of_row _ _ _ _ _ _ h.lf]; rfl
        have flb := frozen_of_row w lb 0 _ _ h.lf
        have hlt := lt_of_heap h.lf
        have g0 : decide (L - 1 < 0) = false := by simp; omega
        have gl1 : (0 : Int) ≤ L - 1 := by omega
        have H := Lib.hid h
        obtain ⟨⟨A1, c1n, rfl, _⟩, A2, c2n, rfl, _⟩ := jv_form h.jv
        clear h
        go_enter Tryd.func64, Tryd.ntmps64
        go_upto_region 4 with (fail)
        obtain ⟨B, hB⟩ : ∃ B, w.heap.size = B := ⟨_, rfl⟩
        have HBw := Lib.hid hB
        have HB1 := Lib.hid (heap_alloc_new (w.setCell ⟨lb, 0, none⟩ (.int .i64 (L - 1))) (.cells (cellJ (.mk 3 t ns ks) (.slice A1 ns.length c1n) (.slice A2 ks.length c2n)).toArray 40))
        have HG1 : Hid (GX [lb] w ((w.setCell ⟨lb, 0, none⟩ (.int .i64 (L - 1))).alloc (.cells (cellJ (.mk 3 t ns ks) (.slice A1 ns.length c1n) (.slice A2 ks.length c2n)).toArray 40))) := Lib.hid (((GX.refl [lb] w).set (by simp) _ _).reader ((Q.refl _).alloc _))
        have HL1 : Hid (LfB ((w.setCell ⟨lb, 0, none⟩ (.int .i64 (L - 1))).alloc (.cells (cellJ (.mk 3 t ns ks) (.slice A1 ns.length c1n) (.slice A2 ks.length c2n)).toArray 40)) lb (L - 1)) := Lib.hid (((Q.refl _).alloc _).block (by rw [heap_setCell_any w lb 0 _ _ _ _ H.out.lf]; rfl))
        have hsz : (w.setCell ⟨lb, 0, none⟩ (.int .i64 (L - 1))).heap.size = B := by rw [← hB]; simp
        obtain ⟨W1, hW1⟩ : ∃ W1, (w.setCell ⟨lb, 0, none⟩ (.int .i64 (L - 1))).alloc (.cells (cellJ (.mk 3 t ns ks) (.slice A1 ns.length c1n) (.slice A2 ks.length c2n)).toArray 40) = W1 := ⟨_, rfl⟩
        rw [hW1] at HB1 HG1 HL1
        rw [hsz] at HB1
        rw [hW1, hB]
        clear hW1 hB hsz clb flb
        have ck : W1.cell? ⟨B, 0, none⟩ = some (.int .i64 3) := by rw [cell_of_row _ _ _ _ _ _ HB1.out]; rfl
        have ct : W1.cell? ⟨B, 1, none⟩ = some (.string ⟨t.toArray⟩) := by rw [cell_of_row _ _ _ _ _ _ HB1.out]; rfl
        have cn : W1.cell? ⟨B, 2, none⟩ = some (.slice A1 ns.length c1n) := by rw [cell_of_row _ _ _ _ _ _ HB1.out]; rfl
        have cc : W1.cell? ⟨B, 3, none⟩ = some (.slice A2 ks.length c2n) := by rw [cell_of_row _ _ _ _ _ _ HB1.out]; rfl
        have mt : ∀ mm : QW W1, mm.val.cell? ⟨B, 1, none⟩ = some (.string ⟨t.toArray⟩) := fun mm => mm.cell ct
        have mn : ∀ mm : QW W1, mm.val.cell? ⟨B, 2, none⟩ = some (.slice A1 ns.length c1n) := fun mm => mm.cell cn
        have mc : ∀ mm : QW W1, mm.val.cell? ⟨B, 3, none⟩ = some (.slice A2 ks.length c2n) := fun mm => mm.cell cc
        refine wp_region_q (by kernel_rfl) (by kernel_rfl) ?_
        (repeat (go_big_quiet_step (fail)))
        refine wpQuiet_nil ?_
        rintro w2 ⟨m2, hm2⟩
        have hq2 : Q W1 w2 := by rw [hm2]; exact m2.le
        clear m2 hm2 mt mn mc
        have ck := hq2.cell ck
        have ct := hq2.cell ct
        have cn := hq2.cell cn
        have cc := hq2.cell cc
        have HG2 := Lib.hid (HG1.out.reader hq2)
        have HL2 : Hid (LfB w2 lb (L - 1)) := Lib.hid (hq2.block HL1.out)
        have HQ2 := Lib.hid hq2
        clear hq2
        go_wp2_with fail
        go_ret
        exact rt_end false HB.out (fun e => by cases e) HL0.out HG2.out HL2.out
    · have hte : List.isEmpty t = false := by simp [ht]
      have HB : Hid (wfJ (.mk 3 t ns ks) d = false) := Lib.hid (by rw [wfJ]; simp [ht])
      have HL0 := Lib.hid hL
      clear ht
      have clb : w.cell? ⟨lb, 0, none⟩ = some (.int .i64 L) := by rw [cell_of_row _ _ _ _ _ _ h.lf]; rfl
      have flb := frozen_of_row w lb 0 _ _ h.lf
      have hlt := lt_of_heap h.lf
      have g0 : decide (L - 1 < 0) = false := by simp; omega
      have gl1 : (0 : Int) ≤ L - 1 := by omega
      have H := Lib.hid h
      obtain ⟨⟨A1, c1n, rfl, _⟩, A2, c2n, rfl, _⟩ := jv_form h.jv
      clear h
      go_enter Tryd.func64, Tryd.ntmps64
      go_upto_region 4 with (fail)
      obtain ⟨B, hB⟩ : ∃ B, w.heap.size = B := ⟨_, rfl⟩
      have HBw := Lib.hid hB
      have HB1 := Lib.hid (heap_alloc_new (w.setCell ⟨lb, 0, none⟩ (.int .i64 (L - 1))) (.cells (cellJ (.mk 3 t ns ks) (.slice A1 ns.length c1n) (.slice A2 ks.length c2n)).toArray 40))
      have HG1 : Hid (GX [lb] w ((w.setCell ⟨lb, 0, none⟩ (.int .i64 (L - 1))).alloc (.cells (cellJ (.mk 3 t ns ks) (.slice A1 ns.length c1n) (.slice A2 ks.length c2n)).toArray 40))) := Lib.hid (((GX.refl [lb] w).set (by simp) _ _).reader ((Q.refl _).alloc _))
      have HL1 : Hid (LfB ((w.setCell ⟨lb, 0, none⟩ (.int .i64 (L - 1))).alloc (.cells (cellJ (.mk 3 t ns ks) (.slice A1 ns.length c1n) (.slice A2 ks.length c2n)).toArray 40)) lb (L - 1)) := Lib.hid (((Q.refl _).alloc _).block (by rw [heap_setCell_any w lb 0 _ _ _ _ H.out.lf]; rfl))
      have hsz : (w.setCell ⟨lb, 0, none⟩ (.int .i64 (L - 1))).heap.size = B := by rw [← hB]; simp
      obtain ⟨W1, hW1⟩ : ∃ W1, (w.setCell ⟨lb, 0, none⟩ (.int .i64 (L - 1))).alloc (.cells (cellJ (.mk 3 t ns ks) (.slice A1 ns.length c1n) (.slice A2 ks.length c2n)).toArray 40) = W1 := ⟨_, rfl⟩
      rw [hW1] at HB1 HG1 HL1
      rw [hsz] at HB1
      rw [hW1, hB]
      clear hW1 hB hsz clb flb
      have ck : W1.cell? ⟨B, 0, none⟩ = some (.int .i64 3) := by rw [cell_of_row _ _ _ _ _ _ HB1.out]; rfl
      have ct : W1.cell? ⟨B, 1, none⟩ = some (.string ⟨t.toArray⟩) := by rw [cell_of_row _ _ _ _ _ _ HB1.out]; rfl
      have cn : W1.cell? ⟨B, 2, none⟩ = some (.slice A1 ns.length c1n) := by rw [cell_of_row _ _ _ _ _ _ HB1.out]; rfl
      have cc : W1.cell? ⟨B, 3, none⟩ = some (.slice A2 ks.length c2n) := by rw [cell_of_row _ _ _ _ _ _ HB1.out]; rfl
      have mt : ∀ mm : QW W1, mm.val.cell? ⟨B, 1, none⟩ = some (.string ⟨t.toArray⟩) := fun mm => mm.cell ct
      have mn : ∀ mm : QW W1, mm.val.cell? ⟨B, 2, none⟩ = some (.slice A1 ns.length c1n) := fun mm => mm.cell cn
      have mc : ∀ mm : QW W1, mm.val.cell? ⟨B, 3, none⟩ = some (.slice A2 ks.length c2n) := fun mm => mm.cell cc
      refine wp_region_q (by kernel_rfl) (by kernel_rfl) ?_
      (repeat (go_big_quiet_step (fail)))
      refine wpQuiet_nil ?_
      rintro w2 ⟨m2, hm2⟩
      have hq2 : Q W1 w2 := by rw [hm2]; exact m2.le
      clear m2 hm2 mt mn mc
      have ck := hq2.cell ck
      have ct := hq2.cell ct
      have cn := hq2.cell cn
      have cc := hq2.cell cc
      have HG2 := Lib.hid (HG1.out.reader hq2)
      have HL2 : Hid (LfB w2 lb (L - 1)) := Lib.hid (hq2.block HL1.out)
      have HQ2 := Lib.hid hq2
      clear hq2
      go_wp2_with fail
      go_ret
      exact rt_end false HB.out (fun e => by cases e) HL0.out HG2.out HL2.out
set_option maxRecDepth 100000 in
theorem right_4 (t : Txt) (ns : List Txt) (ks : List JsonD) (d : Nat) (wJ w : World) (vn vk : Value) (lb : Nat) (L : Int) (h : RtH (.mk 4 t ns ks) wJ w vn vk lb L) (hL : 1 ≤ L) (hL2 : L ≤ 8000) (D : Int) :
    Calls Tryd.prog 64 #[.agg (cellJ (.mk 4 t ns ks) vn vk).toArray, .int .i64 D, .pointer (some ⟨lb, 0, none⟩)] w (RtP (.mk 4 t ns ks) d L lb w) := by
  by_cases hkz : ks = []
  · by_cases hnz : ns = []
    · have hke : decide (0 < ks.length) = false := by simp [hkz]
      have hne : decide (0 < ns.length) = false := by simp [hnz]
      have HB : Hid (wfJ (.mk 4 t ns ks) d = true) := Lib.hid (by rw [wfJ]; simp [hkz, hnz])
      have HL0 := Lib.hid hL
      have HKS := Lib.hid hkz
      clear hkz hnz
      have clb : w.cell? ⟨lb, 0, none⟩ = some (.int .i64 L) := by rw [cell_of_row _ _ _ _ _ _ h.lf]; rfl
      have flb := frozen_of_row w lb 0 _ _ h.lf
      have hlt := lt_of_heap h.lf
      have g0 : decide (L - 1 < 0) = false := by simp; omega
      have gl1 : (0 : Int) ≤ L - 1 := by omega
      have H := Lib.hid h
      obtain ⟨⟨A1, c1n, rfl, _⟩, A2, c2n, rfl, _⟩ := jv_form h.jv
      clear h
      go_enter Tryd.func64, Tryd.ntmps64
      go_upto_region 4 with (fail)
      obtain ⟨B, hB⟩ : ∃ B, w.heap.size = B := ⟨_, rfl⟩
      have HBw := Lib.hid hB
      have HB1 := Lib.hid (heap_alloc_new (w.setCell ⟨lb, 0, none⟩ (.int .i64 (L - 1))) (.cells (cellJ (.mk 4 t ns ks) (.slice A1 ns.length c1n) (.slice A2 ks.length c2n)).toArray 40))
      have HG1 : Hid (GX [lb] w ((w.setCell ⟨lb, 0, none⟩ (.int .i64 (L - 1))).alloc (.cells (cellJ (.mk 4 t ns ks) (.slice A1 ns.length c1n) (.slice A2 ks.length c2n)).toArray 40))) := Lib.hid (((GX.refl [lb] w).set (by simp) _ _).reader ((Q.refl _).alloc _))
      have HL1 : Hid (LfB ((w.setCell ⟨lb, 0, none⟩ (.int .i64 (L - 1))).alloc (.cells (cellJ (.mk 4 t ns ks) (.slice A1 ns.length c1n) (.slice A2 ks.length c2n)).toArray 40)) lb (L - 1)) := Lib.hid (((Q.refl _).alloc _).block (by rw [heap_setCell_any w lb 0 _ _ _ _ H.out.lf]; rfl))
      have hsz : (w.setCell ⟨lb, 0, none⟩ (.int .i64 (L - 1))).heap.size = B := by rw [← hB]; simp
      obtain ⟨W1, hW1⟩ : ∃ W1, (w.setCell ⟨lb, 0, none⟩ (.int .i64 (L - 1))).alloc (.cells (cellJ (.mk 4 t ns ks) (.slice A1 ns.length c1n) (.slice A2 ks.length c2n)).toArray 40) = W1 := ⟨_, rfl⟩
      rw [hW1] at HB1 HG1 HL1
      rw [hsz] at HB1
      rw [hW1, hB]
      clear hW1 hB hsz clb flb
      have ck : W1.cell? ⟨B, 0, none⟩ = some (.int .i64 4) := by rw [cell_of_row _ _ _ _ _ _ HB1.out]; rfl
      have ct : W1.cell? ⟨B, 1, none⟩ = some (.string ⟨t.toArray⟩) := by rw [cell_of_row _ _ _ _ _ _ HB1.out]; rfl
      have cn : W1.cell? ⟨B, 2, none⟩ = some (.slice A1 ns.length c1n) := by rw [cell_of_row _ _ _ _ _ _ HB1.out]; rfl
      have cc : W1.cell? ⟨B, 3, none⟩ = some (.slice A2 ks.length c2n) := by rw [cell_of_row _ _ _ _ _ _ HB1.out]; rfl
      have mt : ∀ mm : QW W1, mm.val.cell? ⟨B, 1, none⟩ = some (.string ⟨t.toArray⟩) := fun mm => mm.cell ct
      have mn : ∀ mm : QW W1, mm.val.cell? ⟨B, 2, none⟩ = some (.slice A1 ns.length c1n) := fun mm => mm.cell cn
      have mc : ∀ mm : QW W1, mm.val.cell? ⟨B, 3, none⟩ = some (.slice A2 ks.length c2n) := fun mm => mm.cell cc
      refine wp_region_q (by kernel_rfl) (by kernel_rfl) ?_
      (repeat (go_big_quiet_step (fail)))
      refine wpQuiet_nil ?_
      rintro w2 ⟨m2, hm2⟩
      have hq2 : Q W1 w2 := by rw [hm2]; exact m2.le
      clear m2 hm2 mt mn mc
      have ck := hq2.cell ck
      have ct := hq2.cell ct
      have cn := hq2.cell cn
      have cc := hq2.cell cc
      have HG2 := Lib.hid (HG1.out.reader hq2)
      have HL2 : Hid (LfB w2 lb (L - 1)) := Lib.hid (hq2.block HL1.out)
      have HQ2 := Lib.hid hq2
      clear hq2
      go_wp2_with fail
      go_ret
      exact rt_end true HB.out (fun _ => HKS.out) HL0.out HG2.out HL2.out
    · have hke : decide (0 < ks.length) = false := by simp [hkz]
      have hne : decide (0 < ns.length) = true := by simp; exact List.length_pos_iff.2 hnz
      have HB : Hid (wfJ (.mk 4 t ns ks) d = false) := Lib.hid (by rw [wfJ]; simp [hnz])
      have HL0 := Lib.hid hL
      clear hkz hnz
      have clb : w.cell? ⟨lb, 0, none⟩ = some (.int .i64 L) := by rw [cell_of_row _ _ _ _ _ _ h.lf]; rfl
      have flb := frozen_of_row w lb 0 _ _ h.lf
      have hlt := lt_of_heap h.lf
      have g0 : decide (L - 1 < 0) = false := by simp; omega
      have gl1 : (0 : Int) ≤ L - 1 := by omega
      have H := Lib.hid h
      obtain ⟨⟨A1, c1n, rfl, _⟩, A2, c2n, rfl, _⟩ := jv_form h.jv
      clear h
      go_enter Tryd.func64, Tryd.ntmps64
      go_upto_region 4 with (fail)
      obtain ⟨B, hB⟩ : ∃ B, w.heap.size = B := ⟨_, rfl⟩
      have HBw := Lib.hid hB
      have HB1 := Lib.hid (heap_alloc_new (w.setCell ⟨lb, 0, none⟩ (.int .i64 (L - 1))) (.cells (cellJ (.mk 4 t ns ks) (.slice A1 ns.length c1n) (.slice A2 ks.length c2n)).toArray 40))
      have HG1 : Hid (GX [lb] w ((w.setCell ⟨lb, 0, none⟩ (.int .i64 (L - 1))).alloc (.cells (cellJ (.mk 4 t ns ks) (.slice A1 ns.length c1n) (.slice A2 ks.length c2n)).toArray 40))) := Lib.hid (((GX.refl [lb] w).set (by simp) _ _).reader ((Q.refl _).alloc _))
      have HL1 : Hid (LfB ((w.setCell ⟨lb, 0, none⟩ (.int .i64 (L - 1))).alloc (.cells (cellJ (.mk 4 t ns ks) (.slice A1 ns.length c1n) (.slice A2 ks.length c2n)).toArray 40)) lb (L - 1)) := Lib.hid (((Q.refl _).alloc _).block (by rw [heap_setCell_any w lb 0 _ _ _ _ H.out.lf]; rfl))
      have hsz : (w.setCell ⟨lb, 0, none⟩ (.int .i64 (L - 1))).heap.size = B := by rw [← hB]; simp
      obtain ⟨W1, hW1⟩ : ∃ W1, (w.setCell ⟨lb, 0, none⟩ (.int .i64 (L - 1))).alloc (.cells (cellJ (.mk 4 t ns ks) (.slice A1 ns.length c1n) (.slice A2 ks.length c2n)).toArray 40) = W1 := ⟨_, rfl⟩
      rw [hW1] at HB1 HG1 HL1
      rw [hsz] at HB1
      rw [hW1, hB]
      clear hW1 hB hsz clb flb
      have ck : W1.cell? ⟨B, 0, none⟩ = some (.int .i64 4) := by rw [cell_of_row _ _ _ _ _ _ HB1.out]; rfl
      have ct : W1.cell? ⟨B, 1, none⟩ = some (.string ⟨t.toArray⟩) := by rw [cell_of_row _ _ _ _ _ _ HB1.out]; rfl
      have cn : W1.cell? ⟨B, 2, none⟩ = some (.slice A1 ns.length c1n) := by rw [cell_of_row _ _ _ _ _ _ HB1.out]; rfl
      have cc : W1.cell? ⟨B, 3, none⟩ = some (.slice A2 ks.length c2n) := by rw [cell_of_row _ _ _ _ _ _ HB1.out]; rfl
      have mt : ∀ mm : QW W1, mm.val.cell? ⟨B, 1, none⟩ = some (.string ⟨t.toArray⟩) := fun mm => mm.cell ct
      have mn : ∀ mm : QW W1, mm.val.cell? ⟨B, 2, none⟩ = some (.slice A1 ns.length c1n) := fun mm => mm.cell cn
      have mc : ∀ mm : QW W1, mm.val.cell? ⟨B, 3, none⟩ = some (.slice A2 ks.length c2n) := fun mm => mm.cell cc
      refine wp_region_q (by kernel_rfl) (by kernel_rfl) ?_
      (repeat (go_big_quiet_step (fail)))
      refine wpQuiet_nil ?_
      rintro w2 ⟨m2, hm2⟩
      have hq2 : Q W1 w2 := by rw [hm2]; exact m2.le
      clear m2 hm2 mt mn mc
      have ck := hq2.cell ck
      have ct := hq2.cell ct
      have cn := hq2.cell cn
      have cc := hq2.cell cc
      have HG2 := Lib.hid (HG1.out.reader hq2)
      have HL2 : Hid (LfB w2 lb (L - 1)) := Lib.hid (hq2.block HL1.out)
      have HQ2 := Lib.hid hq2
      clear hq2
      go_wp2_with fail
      go_ret
      exact rt_end false HB.out (fun e => by cases e) HL0.out HG2.out HL2.out
  · have hke : decide (0 < ks.length) = true := by simp; exact List.length_pos_iff.2 hkz
    have HB : Hid (wfJ (.mk 4 t ns ks) d = false) := Lib.hid (by rw [wfJ]; simp [hkz])
    have HL0 := Lib.hid hL
    clear hkz
    have clb : w.cell? ⟨lb, 0, none⟩ = some (.int .i64 L) := by rw [cell_of_row _ _ _ _ _ _ h.lf]; rfl
    have flb := frozen_of_row w lb 0 _ _ h.lf
    have hlt := lt_of_heap h.lf
    have g0 : decide (L - 1 < 0) = false := by simp; omega
    have gl1 : (0 : Int) ≤ L - 1 := by omega
    have H := Lib.hid h
    obtain ⟨⟨A1, c1n, rfl, _⟩, A2, c2n, rfl, _⟩ := jv_form h.jv
    clear h
    go_enter Tryd.func64, Tryd.ntmps64
    go_upto_region 4 with (fail)
    obtain ⟨B, hB⟩ : ∃ B, w.heap.size = B := ⟨_, rfl⟩
    have HBw := Lib.hid hB
    have HB1 := Lib.hid (heap_alloc_new (w.setCell ⟨lb, 0, none⟩ (.int .i64 (L - 1))) (.cells (cellJ (.mk 4 t ns ks) (.slice A1 ns.length c1n) (.slice A2 ks.length c2n)).toArray 40))
    have HG1 : Hid (GX [lb] w ((w.setCell ⟨lb, 0, none⟩ (.int .i64 (L - 1))).alloc (.cells (cellJ (.mk 4 t ns ks) (.slice A1 ns.length c1n) (.slice A2 ks.length c2n)).toArray 40))) := Lib.hid (((GX.refl [lb] w).set (by simp) _ _).reader ((Q.refl _).alloc _))
    have HL1 : Hid (LfB ((w.setCell ⟨lb, 0, none⟩ (.int .i64 (L - 1))).alloc (.cells (cellJ (.mk 4 t ns ks) (.slice A1 ns.length c1n) (.slice A2 ks.length c2n)).toArray 40)) lb (L - 1)) := Lib.hid (((Q.refl _).alloc _).block (by rw [heap_setCell_any w lb 0 _ _ _ _ H.out.lf]; rfl))
    have hsz : (w.setCell ⟨lb, 0, none⟩ (.int .i64 (L - 1))).heap.size = B := by rw [← hB]; simp
    obtain ⟨W1, hW1⟩ : ∃ W1, (w.setCell ⟨lb, 0, none⟩ (.int .i64 (L - 1))).alloc (.cells (cellJ (.mk 4 t ns ks) (.slice A1 ns.length c1n) (.slice A2 ks.length c2n)).toArray 40) = W1 := ⟨_, rfl⟩
    rw [hW1] at HB1 HG1 HL1
    rw [hsz] at HB1
    rw [hW1, hB]
    clear hW1 hB hsz clb flb
    have ck : W1.cell? ⟨B, 0, none⟩ = some (.int .i64 4) := by rw [cell_of_row _ _ _ _ _ _ HB1.out]; rfl
    have ct : W1.cell? ⟨B, 1, none⟩ = some (.string ⟨t.toArray⟩) := by rw [cell_of_row _ _ _ _ _ _ HB1.out]; rfl
    have cn : W1.cell? ⟨B, 2, none⟩ = some (.slice A1 ns.length c1n) := by rw [cell_of_row _ _ _ _ _ _ HB1.out]; rfl
    have cc : W1.cell? ⟨B, 3, none⟩ = some (.slice A2 ks.length c2n) := by rw [cell_of_row _ _ _ _ _ _ HB1.out]; rfl
    have mt : ∀ mm : QW W1, mm.val.cell? ⟨B, 1, none⟩ = some (.string ⟨t.toArray⟩) := fun mm => mm.cell ct
    have mn : ∀ mm : QW W1, mm.val.cell? ⟨B, 2, none⟩ = some (.slice A1 ns.length c1n) := fun mm => mm.cell cn
    have mc : ∀ mm : QW W1, mm.val.cell? ⟨B, 3, none⟩ = some (.slice A2 ks.length c2n) := fun mm => mm.cell cc
    refine wp_region_q (by kernel_rfl) (by kernel_rfl) ?_
    (repeat (go_big_quiet_step (fail)))
    refine wpQuiet_nil ?_
    rintro w2 ⟨m2, hm2⟩
    have hq2 : Q W1 w2 := by rw [hm2]; exact m2.le
    clear m2 hm2 mt mn mc
    have ck := hq2.cell ck
    have ct := hq2.cell ct
    have cn := hq2.cell cn
    have cc := hq2.cell cc
    have HG2 := Lib.hid (HG1.out.reader hq2)
    have HL2 : Hid (LfB w2 lb (L - 1)) := Lib.hid (hq2.block HL1.out)
    have HQ2 := Lib.hid hq2
    clear hq2
    go_wp2_with fail
    go_ret
    exact rt_end false HB.out (fun e => by cases e) HL0.out HG2.out HL2.out
set_option maxRecDepth 100000 in
theorem right_5 (t : Txt) (ns : List Txt) (ks : List JsonD) (d : Nat) (wJ w : World) (vn vk : Value) (lb : Nat) (L : Int) (h : RtH (.mk 5 t ns ks) wJ w vn vk lb L) (hL : 1 ≤ L) (hL2 : L ≤ 8000) (D : Int) :
    Calls Tryd.prog 64 #[.agg (cellJ (.mk 5 t ns ks) vn vk).toArray, .int .i64 D, .pointer (some ⟨lb, 0, none⟩)] w (RtP (.mk 5 t ns ks) d L lb w) := by
  by_cases hkz : ks = []
  · by_cases hnz : ns = []
    · have hke : decide (0 < ks.length) = false := by simp [hkz]
      have hne : decide (0 < ns.length) = false := by simp [hnz]
      have hV : ∀ W, GX [lb] w W → Calls Tryd.prog 96 #[.string ⟨t.toArray⟩] W fun e w' => e = .returned (.bool (Lib.validD t)) ∧ Q W w' := fun W hg => by
        have hbg := h.big
        rw [bigJ] at hbg
        exact valid_any t hbg.1 W (Utf8Tabs_below h.ut (hg.toQ h.q (by intro x hx; simp at hx; rw [hx]; exact h.lt)))
      have HV := Lib.hid hV
      obtain ⟨b, hb⟩ : ∃ b, Lib.validD t = b := ⟨_, rfl⟩
      rw [hb] at HV
      have HB : Hid (wfJ (.mk 5 t ns ks) d = b) := Lib.hid (by rw [wfJ]; simp [hkz, hnz, hb])
      have HL0 := Lib.hid hL
      have HKS := Lib.hid hkz
      clear hkz hnz hb hV
      have clb : w.cell? ⟨lb, 0, none⟩ = some (.int .i64 L) := by rw [cell_of_row _ _ _ _ _ _ h.lf]; rfl
      have flb := frozen_of_row w lb 0 _ _ h.lf
      have hlt := lt_of_heap h.lf
      have g0 : decide (L - 1 < 0) = false := by simp; omega
      have gl1 : (0 : Int) ≤ L - 1 := by omega
      have H := Lib.hid h
      obtain ⟨⟨A1, c1n, rfl, _⟩, A2, c2n, rfl, _⟩ := jv_form h.jv
      clear h
      go_enter Tryd.func64, Tryd.ntmps64
      go_upto_region 4 with (fail)
      obtain ⟨B, hB⟩ : ∃ B, w.heap.size = B := ⟨_, rfl⟩
      have HBw := Lib.hid hB
      have HB1 := Lib.hid (heap_alloc_new (w.setCell ⟨lb, 0, none⟩ (.int .i64 (L - 1))) (.cells (cellJ (.mk 5 t ns ks) (.slice A1 ns.length c1n) (.slice A2 ks.length c2n)).toArray 40))
      have HG1 : Hid (GX [lb] w ((w.setCell ⟨lb, 0, none⟩ (.int .i64 (L - 1))).alloc (.cells (cellJ (.mk 5 t ns ks) (.slice A1 ns.length c1n) (.slice A2 ks.length c2n)).toArray 40))) := Lib.hid (((GX.refl [lb] w).set (by simp) _ _).reader ((Q.refl _).alloc _))
      have HL1 : Hid (LfB ((w.setCell ⟨lb, 0, none⟩ (.int .i64 (L - 1))).alloc (.cells (cellJ (.mk 5 t ns ks) (.slice A1 ns.length c1n) (.slice A2 ks.length c2n)).toArray 40)) lb (L - 1)) := Lib.hid (((Q.refl _).alloc _).block (by rw [heap_setCell_any w lb 0 _ _ _ _ H.out.lf]; rfl))
      have hsz : (w.setCell ⟨lb, 0, none⟩ (.int .i64 (L - 1))).heap.size = B := by rw [← hB]; simp
      obtain ⟨W1, hW1⟩ : ∃ W1, (w.setCell ⟨lb, 0, none⟩ (.int .i64 (L - 1))).alloc (.cells (cellJ (.mk 5 t ns ks) (.slice A1 ns.length c1n) (.slice A2 ks.length c2n)).toArray 40) = W1 := ⟨_, rfl⟩
      rw [hW1] at HB1 HG1 HL1
      rw [hsz] at HB1
      rw [hW1, hB]
      clear hW1 hB hsz clb flb
      have ck : W1.cell? ⟨B, 0, none⟩ = some (.int .i64 5) := by rw [cell_of_row _ _ _ _ _ _ HB1.out]; rfl
      have ct : W1.cell? ⟨B, 1, none⟩ = some (.string ⟨t.toArray⟩) := by rw [cell_of_row _ _ _ _ _ _ HB1.out]; rfl
      have cn : W1.cell? ⟨B, 2, none⟩ = some (.slice A1 ns.length c1n) := by rw [cell_of_row _ _ _ _ _ _ HB1.out]; rfl
      have cc : W1.cell? ⟨B, 3, none⟩ = some (.slice A2 ks.length c2n) := by rw [cell_of_row _ _ _ _ _ _ HB1.out]; rfl
      have mt : ∀ mm : QW W1, mm.val.cell? ⟨B, 1, none⟩ = some (.string ⟨t.toArray⟩) := fun mm => mm.cell ct
      have mn : ∀ mm : QW W1, mm.val.cell? ⟨B, 2, none⟩ = some (.slice A1 ns.length c1n) := fun mm => mm.cell cn
      have mc : ∀ mm : QW W1, mm.val.cell? ⟨B, 3, none⟩ = some (.slice A2 ks.length c2n) := fun mm => mm.cell cc
      refine wp_region_q (by kernel_rfl) (by kernel_rfl) ?_
      (repeat (go_big_quiet_step (fail)))
      refine wpQuiet_nil ?_
      rintro w2 ⟨m2, hm2⟩
      have hq2 : Q W1 w2 := by rw [hm2]; exact m2.le
      clear m2 hm2 mt mn mc
      have ck := hq2.cell ck
      have ct := hq2.cell ct
      have cn := hq2.cell cn
      have cc := hq2.cell cc
      have HG2 := Lib.hid (HG1.out.reader hq2)
      have HL2 : Hid (LfB w2 lb (L - 1)) := Lib.hid (hq2.block HL1.out)
      have HQ2 := Lib.hid hq2
      clear hq2
      go_wp2_with fail
      refine (HV.out _ HG2.out).mono ?_
      rintro e w3 ⟨rfl, hq3⟩
      have HG3 := Lib.hid (HG2.out.reader hq3)
      have HL3 : Hid (LfB w3 lb (L - 1)) := Lib.hid (hq3.block HL2.out)
      clear hq3
      go_wp2_with fail
      go_ret
      exact rt_end b HB.out (fun _ => HKS.out) HL0.out HG3.out HL3.out
    · have hke : decide (0 < ks.length) = false := by simp [hkz]
      have hne : decide (0 < ns.length) = true := by simp; exact List.length_pos_iff.2 hnz
      have HB : Hid (wfJ (.mk 5 t ns ks) d = false) := Lib.hid (by rw [wfJ]; simp [hnz])
      have HL0 := Lib.hid hL
      clear hkz hnz
      have clb : w.cell? ⟨lb, 0, none⟩ = some (.int .i64 L) := by rw [cell_of_row _ _ _ _ _ _ h.lf]; rfl
      have flb := frozen_of_row w lb 0 _ _ h.lf
      have hlt := lt_of_heap h.lf
      have g0 : decide (L - 1 < 0) = false := by simp; omega
      have gl1 : (0 : Int) ≤ L - 1 := by omega
      have H := Lib.hid h
      obtain ⟨⟨A1, c1n, rfl, _⟩, A2, c2n, rfl, _⟩ := jv_form h.jv
      clear h
      go_enter Tryd.func64, Tryd.ntmps64
      go_upto_region 4 with (fail)
      obtain ⟨B, hB⟩ : ∃ B, w.heap.size = B := ⟨_, rfl⟩
      have HBw := Lib.hid hB
      have HB1 := Lib.hid (heap_alloc_new (w.setCell ⟨lb, 0, none⟩ (.int .i64 (L - 1))) (.cells (cellJ (.mk 5 t ns ks) (.slice A1 ns.length c1n) (.slice A2 ks.length c2n)).toArray 40))
      have HG1 : Hid (GX [lb] w ((w.setCell ⟨lb, 0, none⟩ (.int .i64 (L - 1))).alloc (.cells (cellJ (.mk 5 t ns ks) (.slice A1 ns.length c1n) (.slice A2 ks.length c2n)).toArray 40))) := Lib.hid (((GX.refl [lb] w).set (by simp) _ _).reader ((Q.refl _).alloc _))
      have HL1 : Hid (LfB ((w.setCell ⟨lb, 0, none⟩ (.int .i64 (L - 1))).alloc (.cells (cellJ (.mk 5 t ns ks) (.slice A1 ns.length c1n) (.slice A2 ks.length c2n)).toArray 40)) lb (L - 1)) := Lib.hid (((Q.refl _).alloc _).block (by rw [heap_setCell_any w lb 0 _ _ _ _ H.out.lf]; rfl))
      have hsz : (w.setCell ⟨lb, 0, none⟩ (.int .i64 (L - 1))).heap.size = B := by rw [← hB]; simp
      obtain ⟨W1, hW1⟩ : ∃ W1, (w.setCell ⟨lb, 0, none⟩ (.int .i64 (L - 1))).alloc (.cells (cellJ (.mk 5 t ns ks) (.slice A1 ns.length c1n) (.slice A2 ks.length c2n)).toArray 40) = W1 := ⟨_, rfl⟩
      rw [hW1] at HB1 HG1 HL1
      rw [hsz] at HB1
      rw [hW1, hB]
      clear hW1 hB hsz clb flb
      have ck : W1.cell? ⟨B, 0, none⟩ = some (.int .i64 5) := by rw [cell_of_row _ _ _ _ _ _ HB1.out]; rfl
      have ct : W1.cell? ⟨B, 1, none⟩ = some (.string ⟨t.toArray⟩) := by rw [cell_of_row _ _ _ _ _ _ HB1.out]; rfl
      have cn : W1.cell? ⟨B, 2, none⟩ = some (.slice A1 ns.length c1n) := by rw [cell_of_row _ _ _ _ _ _ HB1.out]; rfl
      have cc : W1.cell? ⟨B, 3, none⟩ = some (.slice A2 ks.length c2n) := by rw [cell_of_row _ _ _ _ _ _ HB1.out]; rfl
      have mt : ∀ mm : QW W1, mm.val.cell? ⟨B, 1, none⟩ = some (.string ⟨t.toArray⟩) := fun mm => mm.cell ct
      have mn : ∀ mm : QW W1, mm.val.cell? ⟨B, 2, none⟩ = some (.slice A1 ns.length c1n) := fun mm => mm.cell cn
      have mc : ∀ mm : QW W1, mm.val.cell? ⟨B, 3, none⟩ = some (.slice A2 ks.length c2n) := fun mm => mm.cell cc
      refine wp_region_q (by kernel_rfl) (by kernel_rfl) ?_
      (repeat (go_big_quiet_step (fail)))
      refine wpQuiet_nil ?_
      rintro w2 ⟨m2, hm2⟩
      have hq2 : Q W1 w2 := by rw [hm2]; exact m2.le
      clear m2 hm2 mt mn mc
      have ck := hq2.cell ck
      have ct := hq2.cell ct
      have cn := hq2.cell cn
      have cc := hq2.cell cc
      have HG2 := Lib.hid (HG1.out.reader hq2)
      have HL2 : Hid (LfB w2 lb (L - 1)) := Lib.hid (hq2.block HL1.out)
      have HQ2 := Lib.hid hq2
      clear hq2
      go_wp2_with fail
      go_ret
      exact rt_end false HB.out (fun e => by cases e) HL0.out HG2.out HL2.out
  · have hke : decide (0 < ks.length) = true := by simp; exact List.length_pos_iff.2 hkz
    have HB : Hid (wfJ (.mk 5 t ns ks) d = false) := Lib.hid (by rw [wfJ]; simp [hkz])
    have HL0 := Lib.hid hL
    clear hkz
    have clb : w.cell? ⟨lb, 0, none⟩ = some (.int .i64 L) := by rw [cell_of_row _ _ _ _ _ _ h.lf]; rfl
    have flb := frozen_of_row w lb 0 _ _ h.lf
    have hlt := lt_of_heap h.lf
    have g0 : decide (L - 1 < 0) = false := by simp; omega
    have gl1 : (0 : Int) ≤ L - 1 := by omega
    have H := Lib.hid h
    obtain ⟨⟨A1, c1n, rfl, _⟩, A2, c2n, rfl, _⟩ := jv_form h.jv
    clear h
    go_enter Tryd.func64, Tryd.ntmps64
    go_upto_region 4 with (fail)
    obtain ⟨B, hB⟩ : ∃ B, w.heap.size = B := ⟨_, rfl⟩
    have HBw := Lib.hid hB
    have HB1 := Lib.hid (heap_alloc_new (w.setCell ⟨lb, 0, none⟩ (.int .i64 (L - 1))) (.cells (cellJ (.mk 5 t ns ks) (.slice A1 ns.length c1n) (.slice A2 ks.length c2n)).toArray 40))
    have HG1 : Hid (GX [lb] w ((w.setCell ⟨lb, 0, none⟩ (.int .i64 (L - 1))).alloc (.cells (cellJ (.mk 5 t ns ks) (.slice A1 ns.length c1n) (.slice A2 ks.length c2n)).toArray 40))) := Lib.hid (((GX.refl [lb] w).set (by simp) _ _).reader ((Q.refl _).alloc _))
    have HL1 : Hid (LfB ((w.setCell ⟨lb, 0, none⟩ (.int .i64 (L - 1))).alloc (.cells (cellJ (.mk 5 t ns ks) (.slice A1 ns.length c1n) (.slice A2 ks.length c2n)).toArray 40)) lb (L - 1)) := Lib.hid (((Q.refl _).alloc _).block (by rw [heap_setCell_any w lb 0 _ _ _ _ H.out.lf]; rfl))
    have hsz : (w.setCell ⟨lb, 0, none⟩ (.int .i64 (L - 1))).heap.size = B := by rw [← hB]; simp
    obtain ⟨W1, hW1⟩ : ∃ W1, (w.setCell ⟨lb, 0, none⟩ (.int .i64 (L - 1))).alloc (.cells (cellJ (.mk 5 t ns ks) (.slice A1 ns.length c1n) (.slice A2 ks.length c2n)).toArray 40) = W1 := ⟨_, rfl⟩
    rw [hW1] at HB1 HG1 HL1
    rw [hsz] at HB1
    rw [hW1, hB]
    clear hW1 hB hsz clb flb
    have ck : W1.cell? ⟨B, 0, none⟩ = some (.int .i64 5) := by rw [cell_of_row _ _ _ _ _ _ HB1.out]; rfl
    have ct : W1.cell? ⟨B, 1, none⟩ = some (.string ⟨t.toArray⟩) := by rw [cell_of_row _ _ _ _ _ _ HB1.out]; rfl
    have cn : W1.cell? ⟨B, 2, none⟩ = some (.slice A1 ns.length c1n) := by rw [cell_of_row _ _ _ _ _ _ HB1.out]; rfl
    have cc : W1.cell? ⟨B, 3, none⟩ = some (.slice A2 ks.length c2n) := by rw [cell_of_row _ _ _ _ _ _ HB1.out]; rfl
    have mt : ∀ mm : QW W1, mm.val.cell? ⟨B, 1, none⟩ = some (.string ⟨t.toArray⟩) := fun mm => mm.cell ct
    have mn : ∀ mm : QW W1, mm.val.cell? ⟨B, 2, none⟩ = some (.slice A1 ns.length c1n) := fun mm => mm.cell cn
    have mc : ∀ mm : QW W1, mm.val.cell? ⟨B, 3, none⟩ = some (.slice A2 ks.length c2n) := fun mm => mm.cell cc
    refine wp_region_q (by kernel_rfl) (by kernel_rfl) ?_
    (repeat (go_big_quiet_step (fail)))
    refine wpQuiet_nil ?_
    rintro w2 ⟨m2, hm2⟩
    have hq2 : Q W1 w2 := by rw [hm2]; exact m2.le
    clear m2 hm2 mt mn mc
    have ck := hq2.cell ck
    have ct := hq2.cell ct
    have cn := hq2.cell cn
    have cc := hq2.cell cc
    have HG2 := Lib.hid (HG1.out.reader hq2)
    have HL2 : Hid (LfB w2 lb (L - 1)) := Lib.hid (hq2.block HL1.out)
    have HQ2 := Lib.hid hq2
    clear hq2
    go_wp2_with fail
    go_ret
    exact rt_end false HB.out (fun e => by cases e) HL0.out HG2.out HL2.out
set_option maxRecDepth 100000 in
theorem right_other (k : Int) (t : Txt) (ns : List Txt) (ks : List JsonD) (hk : k ≠ 1 ∧ k ≠ 2 ∧ k ≠ 3 ∧ k ≠ 4 ∧ k ≠ 5 ∧ k ≠ 6 ∧ k ≠ 7) (d : Nat) (wJ w : World) (vn vk : Value) (lb : Nat) (L : Int) (h : RtH (.mk k t ns ks) wJ w vn vk lb L) (hL : 1 ≤ L) (hL2 : L ≤ 8000) (D : Int) :
    Calls Tryd.prog 64 #[.agg (cellJ (.mk k t ns ks) vn vk).toArray, .int .i64 D, .pointer (some ⟨lb, 0, none⟩)] w (RtP (.mk k t ns ks) d L lb w) := by
  have g1 : ((k : Int) == 1) = false := by simp; omega
  have g2 : ((k : Int) == 2) = false := by simp; omega
  have g3 : ((k : Int) == 3) = false := by simp; omega
  have g4 : ((k : Int) == 4) = false := by simp; omega
  have g5 : ((k : Int) == 5) = false := by simp; omega
  have g6 : ((k : Int) == 6) = false := by simp; omega
  have g7 : ((k : Int) == 7) = false := by simp; omega
  have HB : Hid (wfJ (.mk k t ns ks) d = false) := Lib.hid (by rw [wfJ, if_neg (by omega), if_neg (by omega), if_neg (by omega), if_neg (by omega), if_neg (by omega)])
  have HL0 := Lib.hid hL
  clear hk
  have clb : w.cell? ⟨lb, 0, none⟩ = some (.int .i64 L) := by rw [cell_of_row _ _ _ _ _ _ h.lf]; rfl
  have flb := frozen_of_row w lb 0 _ _ h.lf
  have hlt := lt_of_heap h.lf
  have g0 : decide (L - 1 < 0) = false := by simp; omega
  have gl1 : (0 : Int) ≤ L - 1 := by omega
  have H := Lib.hid h
  obtain ⟨⟨A1, c1n, rfl, _⟩, A2, c2n, rfl, _⟩ := jv_form h.jv
  clear h
  go_enter Tryd.func64, Tryd.ntmps64
  go_upto_region 4 with (fail)
  obtain ⟨B, hB⟩ : ∃ B, w.heap.size = B := ⟨_, rfl⟩
  have HBw := Lib.hid hB
  have HB1 := Lib.hid (heap_alloc_new (w.setCell ⟨lb, 0, none⟩ (.int .i64 (L - 1))) (.cells (cellJ (.mk k t ns ks) (.slice A1 ns.length c1n) (.slice A2 ks.length c2n)).toArray 40))
  have HG1 : Hid (GX [lb] w ((w.setCell ⟨lb, 0, none⟩ (.int .i64 (L - 1))).alloc (.cells (cellJ (.mk k t ns ks) (.slice A1 ns.length c1n) (.slice A2 ks.length c2n)).toArray 40))) := Lib.hid (((GX.refl [lb] w).set (by simp) _ _).reader ((Q.refl _).alloc _))
  have HL1 : Hid (LfB ((w.setCell ⟨lb, 0, none⟩ (.int .i64 (L - 1))).alloc (.cells (cellJ (.mk k t ns ks) (.slice A1 ns.length c1n) (.slice A2 ks.length c2n)).toArray 40)) lb (L - 1)) := Lib.hid (((Q.refl _).alloc _).block (by rw [heap_setCell_any w lb 0 _ _ _ _ H.out.lf]; rfl))
  have hsz : (w.setCell ⟨lb, 0, none⟩ (.int .i64 (L - 1))).heap.size = B := by rw [← hB]; simp
  obtain ⟨W1, hW1⟩ : ∃ W1, (w.setCell ⟨lb, 0, none⟩ (.int .i64 (L - 1))).alloc (.cells (cellJ (.mk k t ns ks) (.slice A1 ns.length c1n) (.slice A2 ks.length c2n)).toArray 40) = W1 := ⟨_, rfl⟩
  rw [hW1] at HB1 HG1 HL1
  rw [hsz] at HB1
  rw [hW1, hB]
  clear hW1 hB hsz clb flb
  have ck : W1.cell? ⟨B, 0, none⟩ = some (.int .i64 k) := by rw [cell_of_row _ _ _ _ _ _ HB1.out]; rfl
  have ct : W1.cell? ⟨B, 1, none⟩ = some (.string ⟨t.toArray⟩) := by rw [cell_of_row _ _ _ _ _ _ HB1.out]; rfl
  have cn : W1.cell? ⟨B, 2, none⟩ = some (.slice A1 ns.length c1n) := by rw [cell_of_row _ _ _ _ _ _ HB1.out]; rfl
  have cc : W1.cell? ⟨B, 3, none⟩ = some (.slice A2 ks.length c2n) := by rw [cell_of_row _ _ _ _ _ _ HB1.out]; rfl
  have mt : ∀ mm : QW W1, mm.val.cell? ⟨B, 1, none⟩ = some (.string ⟨t.toArray⟩) := fun mm => mm.cell ct
  have mn : ∀ mm : QW W1, mm.val.cell? ⟨B, 2, none⟩ = some (.slice A1 ns.length c1n) := fun mm => mm.cell cn
  have mc : ∀ mm : QW W1, mm.val.cell? ⟨B, 3, none⟩ = some (.slice A2 ks.length c2n) := fun mm => mm.cell cc
  refine wp_region_q (by kernel_rfl) (by kernel_rfl) ?_
  (repeat (go_big_quiet_step (fail)))
  refine wpQuiet_nil ?_
  rintro w2 ⟨m2, hm2⟩
  have hq2 : Q W1 w2 := by rw [hm2]; exact m2.le
  clear m2 hm2 mt mn mc
  have ck := hq2.cell ck
  have ct := hq2.cell ct
  have cn := hq2.cell cn
  have cc := hq2.cell cc
  have HG2 := Lib.hid (HG1.out.reader hq2)
  have HL2 : Hid (LfB w2 lb (L - 1)) := Lib.hid (hq2.block HL1.out)
  have HQ2 := Lib.hid hq2
  clear hq2
  go_wp2_with fail
  go_ret
  exact rt_end false HB.out (fun e => by cases e) HL0.out HG2.out HL2.out
set_option maxRecDepth 100000 in
theorem right_6 (t : Txt) (ns : List Txt) (ks : List JsonD) (d : Nat) (hdd : d ≤ 20) (D : Int) (hD : 20 - (d : Int) = D) (wJ w : World) (vn vk : Value) (lb : Nat) (L : Int) (IH : 0 < d → RtKids ks d D wJ lb) (h : RtH (.mk 6 t ns ks) wJ w vn vk lb L) (hL : 1 ≤ L) (hL2 : L ≤ 8000) :
    Calls Tryd.prog 64 #[.agg (cellJ (.mk 6 t ns ks) vn vk).toArray, .int .i64 D, .pointer (some ⟨lb, 0, none⟩)] w (RtP (.mk 6 t ns ks) d L lb w) := by
  by_cases hnz : ns = []
  · by_cases ht : t = []
    · by_cases hd0 : d = 0
      · have hne : decide (0 < ns.length) = false := by simp [hnz]
        have hte : List.isEmpty t = true := by simp [ht]
        have g20 : (D == 20) = true := by simp; omega
        have HB : Hid (wfJ (.mk 6 t ns ks) d = false) := Lib.hid (by rw [wfJ]; simp [hd0])
        have HL0 := Lib.hid hL
        clear ht hD hd0 hnz
        have clb : w.cell? ⟨lb, 0, none⟩ = some (.int .i64 L) := by rw [cell_of_row _ _ _ _ _ _ h.lf]; rfl
        have flb := frozen_of_row w lb 0 _ _ h.lf
        have hlt := lt_of_heap h.lf
        have g0 : decide (L - 1 < 0) = false := by simp; omega
        have gl1 : (0 : Int) ≤ L - 1 := by omega
        have H := Lib.hid h
        obtain ⟨⟨A1, c1n, rfl, _⟩, A2, c2n, rfl, _⟩ := jv_form h.jv
        clear h
        go_enter Tryd.func64, Tryd.ntmps64
        go_upto_region 4 with (fail)
        obtain ⟨B, hB⟩ : ∃ B, w.heap.size = B := ⟨_, rfl⟩
        have HBw := Lib.hid hB
        have HB1 := Lib.hid (heap_alloc_new (w.setCell ⟨lb, 0, none⟩ (.int .i64 (L - 1))) (.cells (cellJ (.mk 6 t ns ks) (.slice A1 ns.length c1n) (.slice A2 ks.length c2n)).toArray 40))
        have HG1 : Hid (GX [lb] w ((w.setCell ⟨lb, 0, none⟩ (.int .i64 (L - 1))).alloc (.cells (cellJ (.mk 6 t ns ks) (.slice A1 ns.length c1n) (.slice A2 ks.length c2n)).toArray 40))) := Lib.hid (((GX.refl [lb] w).set (by simp) _ _).reader ((Q.refl _).alloc _))
        have HL1 : Hid (LfB ((w.setCell ⟨lb, 0, none⟩ (.int .i64 (L - 1))).alloc (.cells (cellJ (.mk 6 t ns ks) (.slice A1 ns.length c1n) (.slice A2 ks.length c2n)).toArray 40)) lb (L - 1)) := Lib.hid (((Q.refl _).alloc _).block (by rw [heap_setCell_any w lb 0 _ _ _ _ H.out.lf]; rfl))
        have hsz : (w.setCell ⟨lb, 0, none⟩ (.int .i64 (L - 1))).heap.size = B := by rw [← hB]; simp
        obtain ⟨W1, hW1⟩ : ∃ W1, (w.setCell ⟨lb, 0, none⟩ (.int .i64 (L - 1))).alloc (.cells (cellJ (.mk 6 t ns ks) (.slice A1 ns.length c1n) (.slice A2 ks.length c2n)).toArray 40) = W1 := ⟨_, rfl⟩
        rw [hW1] at HB1 HG1 HL1
        rw [hsz] at HB1
        rw [hW1, hB]
        clear hW1 hB hsz clb flb
        have ck : W1.cell? ⟨B, 0, none⟩ = some (.int .i64 6) := by rw [cell_of_row _ _ _ _ _ _ HB1.out]; rfl
        have ct : W1.cell? ⟨B, 1, none⟩ = some (.string ⟨t.toArray⟩) := by rw [cell_of_row _ _ _ _ _ _ HB1.out]; rfl
        have cn : W1.cell? ⟨B, 2, none⟩ = some (.slice A1 ns.length c1n) := by rw [cell_of_row _ _ _ _ _ _ HB1.out]; rfl
        have cc : W1.cell? ⟨B, 3, none⟩ = some (.slice A2 ks.length c2n) := by rw [cell_of_row _ _ _ _ _ _ HB1.out]; rfl
        have mt : ∀ mm : QW W1, mm.val.cell? ⟨B, 1, none⟩ = some (.string ⟨t.toArray⟩) := fun mm => mm.cell ct
        have mn : ∀ mm : QW W1, mm.val.cell? ⟨B, 2, none⟩ = some (.slice A1 ns.length c1n) := fun mm => mm.cell cn
        have mc : ∀ mm : QW W1, mm.val.cell? ⟨B, 3, none⟩ = some (.slice A2 ks.length c2n) := fun mm => mm.cell cc
        refine wp_region_q (by kernel_rfl) (by kernel_rfl) ?_
        (repeat (go_big_quiet_step (fail)))
        refine wpQuiet_nil ?_
        rintro w2 ⟨m2, hm2⟩
        have hq2 : Q W1 w2 := by rw [hm2]; exact m2.le
        clear m2 hm2 mt mn mc
        have ck := hq2.cell ck
        have ct := hq2.cell ct
        have cn := hq2.cell cn
        have cc := hq2.cell cc
        have HG2 := Lib.hid (HG1.out.reader hq2)
        have HL2 : Hid (LfB w2 lb (L - 1)) := Lib.hid (hq2.block HL1.out)
        have HQ2 := Lib.hid hq2
        clear hq2
        go_wp2_with fail
        go_ret
        exact rt_end false HB.out (fun e => by cases e) HL0.out HG2.out HL2.out
      · have hne : decide (0 < ns.length) = false := by simp [hnz]
        have hte : List.isEmpty t = true := by simp [ht]
        have g20 : (D == 20) = false := by simp; omega
        have HWf : Hid (wfJ (.mk 6 t ns ks) d = wfKs ks (d - 1)) := Lib.hid (by
          have h0 : 0 < d := by omega
          skip
          rw [wfJ]; simp [ht, hnz, h0])
        have HL0 : Hid (0 ≤ L - 1) := Lib.hid (by omega)
        have HIH := Lib.hid (IH (by omega))
        have hDl : (0 : Int) ≤ D := by omega
        have hDu : D ≤ 20 := by omega
        clear ht hD hd0 IH hnz
        have clb : w.cell? ⟨lb, 0, none⟩ = some (.int .i64 L) := by rw [cell_of_row _ _ _ _ _ _ h.lf]; rfl
        have flb := frozen_of_row w lb 0 _ _ h.lf
        have hlt := lt_of_heap h.lf
        have g0 : decide (L - 1 < 0) = false := by simp; omega
        have gl1 : (0 : Int) ≤ L - 1 := by omega
        have H := Lib.hid h
        obtain ⟨⟨A1, c1n, rfl, _⟩, A2, c2n, rfl, _⟩ := jv_form h.jv
        clear h
        go_enter Tryd.func64, Tryd.ntmps64
        go_upto_region 4 with (fail)
        obtain ⟨B, hB⟩ : ∃ B, w.heap.size = B := ⟨_, rfl⟩
        have HBw := Lib.hid hB
        have HB1 := Lib.hid (heap_alloc_new (w.setCell ⟨lb, 0, none⟩ (.int .i64 (L - 1))) (.cells (cellJ (.mk 6 t ns ks) (.slice A1 ns.length c1n) (.slice A2 ks.length c2n)).toArray 40))
        have HG1 : Hid (GX [lb] w ((w.setCell ⟨lb, 0, none⟩ (.int .i64 (L - 1))).alloc (.cells (cellJ (.mk 6 t ns ks) (.slice A1 ns.length c1n) (.slice A2 ks.length c2n)).toArray 40))) := Lib.hid (((GX.refl [lb] w).set (by simp) _ _).reader ((Q.refl _).alloc _))
        have HL1 : Hid (LfB ((w.setCell ⟨lb, 0, none⟩ (.int .i64 (L - 1))).alloc (.cells (cellJ (.mk 6 t ns ks) (.slice A1 ns.length c1n) (.slice A2 ks.length c2n)).toArray 40)) lb (L - 1)) := Lib.hid (((Q.refl _).alloc _).block (by rw [heap_setCell_any w lb 0 _ _ _ _ H.out.lf]; rfl))
        have hsz : (w.setCell ⟨lb, 0, none⟩ (.int .i64 (L - 1))).heap.size = B := by rw [← hB]; simp
        obtain ⟨W1, hW1⟩ : ∃ W1, (w.setCell ⟨lb, 0, none⟩ (.int .i64 (L - 1))).alloc (.cells (cellJ (.mk 6 t ns ks) (.slice A1 ns.length c1n) (.slice A2 ks.length c2n)).toArray 40) = W1 := ⟨_, rfl⟩
        rw [hW1] at HB1 HG1 HL1
        rw [hsz] at HB1
        rw [hW1, hB]
        clear hW1 hB hsz clb flb
        have ck : W1.cell? ⟨B, 0, none⟩ = some (.int .i64 6) := by rw [cell_of_row _ _ _ _ _ _ HB1.out]; rfl
        have ct : W1.cell? ⟨B, 1, none⟩ = some (.string ⟨t.toArray⟩) := by rw [cell_of_row _ _ _ _ _ _ HB1.out]; rfl
        have cn : W1.cell? ⟨B, 2, none⟩ = some (.slice A1 ns.length c1n) := by rw [cell_of_row _ _ _ _ _ _ HB1.out]; rfl
        have cc : W1.cell? ⟨B, 3, none⟩ = some (.slice A2 ks.length c2n) := by rw [cell_of_row _ _ _ _ _ _ HB1.out]; rfl
        have mt : ∀ mm : QW W1, mm.val.cell? ⟨B, 1, none⟩ = some (.string ⟨t.toArray⟩) := fun mm => mm.cell ct
        have mn : ∀ mm : QW W1, mm.val.cell? ⟨B, 2, none⟩ = some (.slice A1 ns.length c1n) := fun mm => mm.cell cn
        have mc : ∀ mm : QW W1, mm.val.cell? ⟨B, 3, none⟩ = some (.slice A2 ks.length c2n) := fun mm => mm.cell cc
        refine wp_region_q (by kernel_rfl) (by kernel_rfl) ?_
        (repeat (go_big_quiet_step (fail)))
        refine wpQuiet_nil ?_
        rintro w2 ⟨m2, hm2⟩
        have hq2 : Q W1 w2 := by rw [hm2]; exact m2.le
        clear m2 hm2 mt mn mc
        have ck := hq2.cell ck
        have ct := hq2.cell ct
        have cn := hq2.cell cn
        have cc := hq2.cell cc
        have HG2 := Lib.hid (HG1.out.reader hq2)
        have HL2 : Hid (LfB w2 lb (L - 1)) := Lib.hid (hq2.block HL1.out)
        have HQ2 := Lib.hid hq2
        clear hq2
        obtain ⟨W2, hW2⟩ : ∃ W2, w2 = W2 := ⟨_, rfl⟩
        subst hW2
        go_upto_region 24 with (fail)
        clear ck ct cn cc
        have HS0 : Hid (KidsSt w lb L ks d 0 w2) := Lib.hid ⟨HG2.out, by rw [List.take_zero, cntKs]; simpa using HL2.out, by rw [List.take_zero, cntKs]; have := HL0.out; simp; omega, by rw [List.take_zero, wfKs]⟩
        go_loopw [94] (fun i wx => ∃ k' : Nat, k' ≤ ks.length ∧ i = .int .i64 k' ∧ Hid (KidsSt w lb L ks d k' wx)) (fun i _ => ks.length - (intOf i).toNat)
        case atStart => exact ⟨0, by omega, rfl, HS0⟩
        case round =>
          obtain ⟨k', hk', rfl, HI⟩ := hrel
          rename World => wa
          by_cases hlt : k' < ks.length
          · have hd1 : decide (k' < ks.length) = true := by simpa using hlt
            obtain ⟨B0, c0, e0, _, _, hkid⟩ := H.out.jv.kid
            obtain ⟨g, off, vn', vk', e1, y0, y1, y2, y3, yv⟩ := hkid k' hlt
            subst e1
            injection e0 with e2 _ e3
            subst e2
            have HJv := Lib.hid yv
            have hqa : Q wJ wa := HI.out.1.toQ H.out.q (by intro x hx; simp at hx; rw [hx]; exact H.out.lt)
            have HRg : Hid (wa.rangeAt g (off + k' * 4) (cellJ (gK ks k') vn' vk')) := Lib.hid (fun j u hu => by
              match j, hu with
              | 0, hu => injection hu with hu; subst hu; exact hqa.cell y0
              | 1, hu => injection hu with hu; subst hu; exact hqa.cell y1
              | 2, hu => injection hu with hu; subst hu; exact hqa.cell y2
              | 3, hu => injection hu with hu; subst hu; exact hqa.cell y3
              | n + 4, hu => simp [cellJ, jsonC] at hu)
            have hbg := H.out.big
            rw [bigJ] at hbg
            have HBg := Lib.hid (bigKs_gK hbg.2.2 hlt)
            obtain ⟨j', hj'⟩ : ∃ j', gK ks k' = j' := ⟨_, rfl⟩
            have HJ' := Lib.hid hj'
            rw [hj'] at HJv HRg HBg
            have HKid : Hid (∀ W L', RtH j' wJ W vn' vk' lb L' → 0 ≤ L' → L' ≤ 8000 → Calls Tryd.prog 64 #[.agg (cellJ j' vn' vk').toArray, .int .i64 (D + 1), .pointer (some ⟨lb, 0, none⟩)] W (RtP j' (d - 1) L' lb W)) := Lib.hid (fun W L' h1 h2 h3 => by
              have := HIH.out k' hlt W vn' vk' L'
              rw [hj'] at this
              exact this h1 h2 h3)
            have HIn : Hid ((Tryd.prog.info? 40).map (·.size) = some (cellJ j' vn' vk').length) := Lib.hid (info_sz j' vn' vk')
            obtain ⟨⟨_, _, _, f1⟩, ⟨_, _, _, f2⟩⟩ := jv_slices HJv.out
            have HOne := Lib.hid (cellJ_one (j := j') ⟨_, _, _, f1⟩ ⟨_, _, _, f2⟩)
            have HZa : Hid (w.heap.size ≤ wa.heap.size) := Lib.hid HI.out.1.size
            clear y0 y1 y2 y3 yv hqa hbg hj' f1 f2 hkid e3
            go_upto_region 25 with (fail)
            iterate 4 go_step
            refine wpList_load_mid rfl 40 (.tmp 96) rfl g (off + k' * 4) rfl (cellJ j' vn' vk') _ HRg.out Tryd.underlying40 rfl HIn.out ?_
            simp only [Act.put, List.setIfInBounds_toArray, List.set_cons_succ, List.set_cons_zero]
            go_upto_region 26 with (refine wpList_store_row rfl 40 (.tmp 11) (.tmp 97) rfl wa.heap.size (cellJ j' vn' vk').toArray rfl rfl 40 _ (heap_alloc_new wa _) HIn.out rfl HOne.out ?_)
            simp only [Act.put]
            have HB3 : Hid (((wa.alloc (.cells #[.int .i64 0, .string ⟨#[]⟩, .slice none 0 0, .slice none 0 0] 40)).setRow wa.heap.size (cellJ j' vn' vk').toArray).heap[wa.heap.size]? = some (.cells (cellJ j' vn' vk').toArray 40 (0, 0))) := Lib.hid (setRow_at (heap_alloc_new wa _) _)
            have HQ3 : Hid (Q wa ((wa.alloc (.cells #[.int .i64 0, .string ⟨#[]⟩, .slice none 0 0, .slice none 0 0] 40)).setRow wa.heap.size (cellJ j' vn' vk').toArray)) := Lib.hid (((Q.refl wa).alloc _).setRow (Nat.le_refl _) _)
            obtain ⟨N3, hN3⟩ : ∃ N3, wa.heap.size = N3 := ⟨_, rfl⟩
            obtain ⟨W3, hW3⟩ : ∃ W3, (wa.alloc (.cells #[.int .i64 0, .string ⟨#[]⟩, .slice none 0 0, .slice none 0 0] 40)).setRow N3 (cellJ j' vn' vk').toArray = W3 := ⟨_, rfl⟩
            rw [hN3, hW3] at HB3 HQ3
            rw [hN3, hW3]
            clear hN3 hW3
            have HK3 := Lib.hid (HKid.out W3 _ ⟨HJv.out, (HI.out.1.toQ H.out.q (by intro x hx; simp at hx; rw [hx]; exact H.out.lt)).trans HQ3.out, H.out.ut, H.out.lt, HQ3.out.block HI.out.2.1, HBg.out⟩ (by have := HI.out.2.2.1; omega) (by omega))
            iterate 1 go_step
            refine wpList_load_row rfl 40 (.tmp 11) rfl N3 rfl 40 (cellJ j' vn' vk').toArray (0, 0) _ HB3.out Tryd.underlying40 rfl HIn.out ?_
            simp only [Act.put, List.setIfInBounds_toArray, List.set_cons_succ, List.set_cons_zero]
            go_wp2_with fail
            refine HK3.out.mono ?_
            rintro e w4 ⟨rfl, hg4, L', hl4, hl5, hl6⟩
            have HG4 := Lib.hid ((HI.out.1.reader HQ3.out).trans hg4)
            have HL4 := Lib.hid hl4
            have HL5 := Lib.hid hl5
            have HL6 := Lib.hid hl6
            obtain ⟨rb, hrb⟩ : ∃ rb, rtB j' (d - 1) (L - 1 - (cntKs (ks.take k') : Int)) = rb := ⟨_, rfl⟩
            have HRb := Lib.hid hrb
            rw [hrb]
            clear hg4 hl4 hl5 hl6 hrb HK3 HKid
            cases rb with
            | false =>
              have HX : Hid (RtP (.mk 6 t ns ks) d L lb w (.returned (.bool false)) w4) := Lib.hid (kids_no hlt HI.out HWf.out (by rw [HJ'.out]; exact HRb.out) HG4.out HL4.out HL5.out)
              go_wp2_with fail
              go_ret
              exact HX.out
            | true =>
              have HX : Hid (KidsSt w lb L ks d (k' + 1) w4) := Lib.hid (kids_next hlt HI.out (by rw [HJ'.out]; exact HRb.out) HG4.out HL4.out (by rw [HJ'.out]; exact HL6.out HRb.out))
              go_wp2_with fail
              go_roundw
              case rel => exact ⟨k' + 1, by omega, by go_num, HX⟩
              case measure => simp [intOf]; omega
          · have hd1 : decide (k' < ks.length) = false := by simpa using hlt
            obtain rfl : k' = ks.length := by omega
            have HX : Hid (RtP (.mk 6 t ns ks) d L lb w (.returned (.bool true)) wa) := Lib.hid (kids_yes HI.out HWf.out)
            go_wp2_with fail
            go_ret
            exact HX.out
    · have hne : decide (0 < ns.length) = false := by simp [hnz]
      have HB : Hid (wfJ (.mk 6 t ns ks) d = false) := Lib.hid (by rw [wfJ]; simp [ht])
      have hte : List.isEmpty t = false := by simp [ht]
      have HL0 := Lib.hid hL
      clear ht hD hnz
      have clb : w.cell? ⟨lb, 0, none⟩ = some (.int .i64 L) := by rw [cell_of_row _ _ _ _ _ _ h.lf]; rfl
      have flb := frozen_of_row w lb 0 _ _ h.lf
      have hlt := lt_of_heap h.lf
      have g0 : decide (L - 1 < 0) = false := by simp; omega
      have gl1 : (0 : Int) ≤ L - 1 := by omega
      have H := Lib.hid h
      obtain ⟨⟨A1, c1n, rfl, _⟩, A2, c2n, rfl, _⟩ := jv_form h.jv
      clear h
      go_enter Tryd.func64, Tryd.ntmps64
      go_upto_region 4 with (fail)
      obtain ⟨B, hB⟩ : ∃ B, w.heap.size = B := ⟨_, rfl⟩
      have HBw := Lib.hid hB
      have HB1 := Lib.hid (heap_alloc_new (w.setCell ⟨lb, 0, none⟩ (.int .i64 (L - 1))) (.cells (cellJ (.mk 6 t ns ks) (.slice A1 ns.length c1n) (.slice A2 ks.length c2n)).toArray 40))
      have HG1 : Hid (GX [lb] w ((w.setCell ⟨lb, 0, none⟩ (.int .i64 (L - 1))).alloc (.cells (cellJ (.mk 6 t ns ks) (.slice A1 ns.length c1n) (.slice A2 ks.length c2n)).toArray 40))) := Lib.hid (((GX.refl [lb] w).set (by simp) _ _).reader ((Q.refl _).alloc _))
      have HL1 : Hid (LfB ((w.setCell ⟨lb, 0, none⟩ (.int .i64 (L - 1))).alloc (.cells (cellJ (.mk 6 t ns ks) (.slice A1 ns.length c1n) (.slice A2 ks.length c2n)).toArray 40)) lb (L - 1)) := Lib.hid (((Q.refl _).alloc _).block (by rw [heap_setCell_any w lb 0 _ _ _ _ H.out.lf]; rfl))
      have hsz : (w.setCell ⟨lb, 0, none⟩ (.int .i64 (L - 1))).heap.size = B := by rw [← hB]; simp
      obtain ⟨W1, hW1⟩ : ∃ W1, (w.setCell ⟨lb, 0, none⟩ (.int .i64 (L - 1))).alloc (.cells (cellJ (.mk 6 t ns ks) (.slice A1 ns.length c1n) (.slice A2 ks.length c2n)).toArray 40) = W1 := ⟨_, rfl⟩
      rw [hW1] at HB1 HG1 HL1
      rw [hsz] at HB1
      rw [hW1, hB]
      clear hW1 hB hsz clb flb
      have ck : W1.cell? ⟨B, 0, none⟩ = some (.int .i64 6) := by rw [cell_of_row _ _ _ _ _ _ HB1.out]; rfl
      have ct : W1.cell? ⟨B, 1, none⟩ = some (.string ⟨t.toArray⟩) := by rw [cell_of_row _ _ _ _ _ _ HB1.out]; rfl
      have cn : W1.cell? ⟨B, 2, none⟩ = some (.slice A1 ns.length c1n) := by rw [cell_of_row _ _ _ _ _ _ HB1.out]; rfl
      have cc : W1.cell? ⟨B, 3, none⟩ = some (.slice A2 ks.length c2n) := by rw [cell_of_row _ _ _ _ _ _ HB1.out]; rfl
      have mt : ∀ mm : QW W1, mm.val.cell? ⟨B, 1, none⟩ = some (.string ⟨t.toArray⟩) := fun mm => mm.cell ct
      have mn : ∀ mm : QW W1, mm.val.cell? ⟨B, 2, none⟩ = some (.slice A1 ns.length c1n) := fun mm => mm.cell cn
      have mc : ∀ mm : QW W1, mm.val.cell? ⟨B, 3, none⟩ = some (.slice A2 ks.length c2n) := fun mm => mm.cell cc
      refine wp_region_q (by kernel_rfl) (by kernel_rfl) ?_
      (repeat (go_big_quiet_step (fail)))
      refine wpQuiet_nil ?_
      rintro w2 ⟨m2, hm2⟩
      have hq2 : Q W1 w2 := by rw [hm2]; exact m2.le
      clear m2 hm2 mt mn mc
      have ck := hq2.cell ck
      have ct := hq2.cell ct
      have cn := hq2.cell cn
      have cc := hq2.cell cc
      have HG2 := Lib.hid (HG1.out.reader hq2)
      have HL2 : Hid (LfB w2 lb (L - 1)) := Lib.hid (hq2.block HL1.out)
      have HQ2 := Lib.hid hq2
      clear hq2
      go_wp2_with fail
      go_ret
      exact rt_end false HB.out (fun e => by cases e) HL0.out HG2.out HL2.out
  · have hne : decide (0 < ns.length) = true := by simp; exact List.length_pos_iff.2 hnz
    have HB : Hid (wfJ (.mk 6 t ns ks) d = false) := Lib.hid (by rw [wfJ]; simp [hnz])
    have HL0 := Lib.hid hL
    clear hnz
    have clb : w.cell? ⟨lb, 0, none⟩ = some (.int .i64 L) := by rw [cell_of_row _ _ _ _ _ _ h.lf]; rfl
    have flb := frozen_of_row w lb 0 _ _ h.lf
    have hlt := lt_of_heap h.lf
    have g0 : decide (L - 1 < 0) = false := by simp; omega
    have gl1 : (0 : Int) ≤ L - 1 := by omega
    have H := Lib.hid h
    obtain ⟨⟨A1, c1n, rfl, _⟩, A2, c2n, rfl, _⟩ := jv_form h.jv
    clear h
    go_enter Tryd.func64, Tryd.ntmps64
    go_upto_region 4 with (fail)
    obtain ⟨B, hB⟩ : ∃ B, w.heap.size = B := ⟨_, rfl⟩
    have HBw := Lib.hid hB
    have HB1 := Lib.hid (heap_alloc_new (w.setCell ⟨lb, 0, none⟩ (.int .i64 (L - 1))) (.cells (cellJ (.mk 6 t ns ks) (.slice A1 ns.length c1n) (.slice A2 ks.length c2n)).toArray 40))
    have HG1 : Hid (GX [lb] w ((w.setCell ⟨lb, 0, none⟩ (.int .i64 (L - 1))).alloc (.cells (cellJ (.mk 6 t ns ks) (.slice A1 ns.length c1n) (.slice A2 ks.length c2n)).toArray 40))) := Lib.hid (((GX.refl [lb] w).set (by simp) _ _).reader ((Q.refl _).alloc _))
    have HL1 : Hid (LfB ((w.setCell ⟨lb, 0, none⟩ (.int .i64 (L - 1))).alloc (.cells (cellJ (.mk 6 t ns ks) (.slice A1 ns.length c1n) (.slice A2 ks.length c2n)).toArray 40)) lb (L - 1)) := Lib.hid (((Q.refl _).alloc _).block (by rw [heap_setCell_any w lb 0 _ _ _ _ H.out.lf]; rfl))
    have hsz : (w.setCell ⟨lb, 0, none⟩ (.int .i64 (L - 1))).heap.size = B := by rw [← hB]; simp
    obtain ⟨W1, hW1⟩ : ∃ W1, (w.setCell ⟨lb, 0, none⟩ (.int .i64 (L - 1))).alloc (.cells (cellJ (.mk 6 t ns ks) (.slice A1 ns.length c1n) (.slice A2 ks.length c2n)).toArray 40) = W1 := ⟨_, rfl⟩
    rw [hW1] at HB1 HG1 HL1
    rw [hsz] at HB1
    rw [hW1, hB]
    clear hW1 hB hsz clb flb
    have ck : W1.cell? ⟨B, 0, none⟩ = some (.int .i64 6) := by rw [cell_of_row _ _ _ _ _ _ HB1.out]; rfl
    have ct : W1.cell? ⟨B, 1, none⟩ = some (.string ⟨t.toArray⟩) := by rw [cell_of_row _ _ _ _ _ _ HB1.out]; rfl
    have cn : W1.cell? ⟨B, 2, none⟩ = some (.slice A1 ns.length c1n) := by rw [cell_of_row _ _ _ _ _ _ HB1.out]; rfl
    have cc : W1.cell? ⟨B, 3, none⟩ = some (.slice A2 ks.length c2n) := by rw [cell_of_row _ _ _ _ _ _ HB1.out]; rfl
    have mt : ∀ mm : QW W1, mm.val.cell? ⟨B, 1, none⟩ = some (.string ⟨t.toArray⟩) := fun mm => mm.cell ct
    have mn : ∀ mm : QW W1, mm.val.cell? ⟨B, 2, none⟩ = some (.slice A1 ns.length c1n) := fun mm => mm.cell cn
    have mc : ∀ mm : QW W1, mm.val.cell? ⟨B, 3, none⟩ = some (.slice A2 ks.length c2n) := fun mm => mm.cell cc
    refine wp_region_q (by kernel_rfl) (by kernel_rfl) ?_
    (repeat (go_big_quiet_step (fail)))
    refine wpQuiet_nil ?_
    rintro w2 ⟨m2, hm2⟩
    have hq2 : Q W1 w2 := by rw [hm2]; exact m2.le
    clear m2 hm2 mt mn mc
    have ck := hq2.cell ck
    have ct := hq2.cell ct
    have cn := hq2.cell cn
    have cc := hq2.cell cc
    have HG2 := Lib.hid (HG1.out.reader hq2)
    have HL2 : Hid (LfB w2 lb (L - 1)) := Lib.hid (hq2.block HL1.out)
    have HQ2 := Lib.hid hq2
    clear hq2
    go_wp2_with fail
    go_ret
    exact rt_end false HB.out (fun e => by cases e) HL0.out HG2.out HL2.out
set_option maxRecDepth 100000 in
theorem right_7 (t : Txt) (ns : List Txt) (ks : List JsonD) (d : Nat) (hdd : d ≤ 20) (D : Int) (hD : 20 - (d : Int) = D) (wJ w : World) (vn vk : Value) (lb : Nat) (L : Int) (IH : 0 < d → RtKids ks d D wJ lb) (h : RtH (.mk 7 t ns ks) wJ w vn vk lb L) (hL : 1 ≤ L) (hL2 : L ≤ 8000) :
    Calls Tryd.prog 64 #[.agg (cellJ (.mk 7 t ns ks) vn vk).toArray, .int .i64 D, .pointer (some ⟨lb, 0, none⟩)] w (RtP (.mk 7 t ns ks) d L lb w) := by
  by_cases hln : ns.length = ks.length
  · by_cases hall : ∀ x ∈ ns, Lib.validD x = true
    · have han : (ns.any fun x => !(Lib.validD x)) = false := by rw [List.any_eq_false]; intro x hx; simp [hall x hx]
      by_cases ht : t = []
      · by_cases hd0 : d = 0
        · have hln2 : (((ns.length : Int)) != (ks.length : Int)) = false := by simp; omega
          have hut := h.ut
          have hqj := h.q
          have hltj := h.lt
          have hjv := h.jv
          have hbgn := h.big
          rw [bigJ] at hbgn
          rw [JV] at hjv
          have hnv := hjv.1
          have HCt : Hid (∀ W, GX [lb] w W → Calls Tryd.prog 35 #[vn, .func (.func 97) #[] #[]] W fun e w' => e = .returned (.bool (ns.any fun x => !(Lib.validD x))) ∧ Q W w') := Lib.hid (fun W hg => by
            have hqW : Q wJ W := hg.toQ hqj (by intro x hx; simp at hx; rw [hx]; exact hltj)
            exact contains_func 97 #[] (enters_of Tryd.func97 (by kernel_rfl) rfl) (fun x => !(Lib.validD x)) ns vn W (hnv.mono (fun _ _ => hqW.cell)) (fun i hi X hX => by
              have hx : (gL ns i).length ≤ 9223372036854775807 := hbgn.2.1 _ (by simp [gL, List.getD, hi])
              simpa using right1_any (gL ns i) hx X (Utf8Tabs_below hut (hqW.trans hX))))
          clear hut hqj hltj hjv hbgn hnv
          have HAn : Hid ((ns.any fun x => !(Lib.validD x)) = false) := Lib.hid han
          have hte : List.isEmpty t = true := by simp [ht]
          have g20 : (D == 20) = true := by simp; omega
          have HB : Hid (wfJ (.mk 7 t ns ks) d = false) := Lib.hid (by rw [wfJ]; simp [hd0])
          have HL0 := Lib.hid hL
          clear ht hD hd0 hln han hall
          have clb : w.cell? ⟨lb, 0, none⟩ = some (.int .i64 L) := by rw [cell_of_row _ _ _ _ _ _ h.lf]; rfl
          have flb := frozen_of_row w lb 0 _ _ h.lf
          have hlt := lt_of_heap h.lf
          have g0 : decide (L - 1 < 0) = false := by simp; omega
          have gl1 : (0 : Int) ≤ L - 1 := by omega
          have H := Lib.hid h
          obtain ⟨⟨A1, c1n, rfl, _⟩, A2, c2n, rfl, _⟩ := jv_form h.jv
          clear h
          go_enter Tryd.func64, Tryd.ntmps64
          go_upto_region 4 with (fail)
          obtain ⟨B, hB⟩ : ∃ B, w.heap.size = B := ⟨_, rfl⟩
          have HBw := Lib.hid hB
          have HB1 := Lib.hid (heap_alloc_new (w.setCell ⟨lb, 0, none⟩ (.int .i64 (L - 1))) (.cells (cellJ (.mk 7 t ns ks) (.slice A1 ns.length c1n) (.slice A2 ks.length c2n)).toArray 40))
          have HG1 : Hid (GX [lb] w ((w.setCell ⟨lb, 0, none⟩ (.int .i64 (L - 1))).alloc (.cells (cellJ (.mk 7 t ns ks) (.slice A1 ns.length c1n) (.slice A2 ks.length c2n)).toArray 40))) := Lib.hid (((GX.refl [lb] w).set (by simp) _ _).reader ((Q.refl _).alloc _))
          have HL1 : Hid (LfB ((w.setCell ⟨lb, 0, none⟩ (.int .i64 (L - 1))).alloc (.cells (cellJ (.mk 7 t ns ks) (.slice A1 ns.length c1n) (.slice A2 ks.length c2n)).toArray 40)) lb (L - 1)) := Lib.hid (((Q.refl _).alloc _).block (by rw [heap_setCell_any w lb 0 _ _ _ _ H.out.lf]; rfl))
          have hsz : (w.setCell ⟨lb, 0, none⟩ (.int .i64 (L - 1))).heap.size = B := by rw [← hB]; simp
          obtain ⟨W1, hW1⟩ : ∃ W1, (w.setCell ⟨lb, 0, none⟩ (.int .i64 (L - 1))).alloc (.cells (cellJ (.mk 7 t ns ks) (.slice A1 ns.length c1n) (.slice A2 ks.length c2n)).toArray 40) = W1 := ⟨_, rfl⟩
          rw [hW1] at HB1 HG1 HL1
          rw [hsz] at HB1
          rw [hW1, hB]
          clear hW1 hB hsz clb flb
          have ck : W1.cell? ⟨B, 0, none⟩ = some (.int .i64 7) := by rw [cell_of_row _ _ _ _ _ _ HB1.out]; rfl
          have ct : W1.cell? ⟨B, 1, none⟩ = some (.string ⟨t.toArray⟩) := by rw [cell_of_row _ _ _ _ _ _ HB1.out]; rfl
          have cn : W1.cell? ⟨B, 2, none⟩ = some (.slice A1 ns.length c1n) := by rw [cell_of_row _ _ _ _ _ _ HB1.out]; rfl
          have cc : W1.cell? ⟨B, 3, none⟩ = some (.slice A2 ks.length c2n) := by rw [cell_of_row _ _ _ _ _ _ HB1.out]; rfl
          have mt : ∀ mm : QW W1, mm.val.cell? ⟨B, 1, none⟩ = some (.string ⟨t.toArray⟩) := fun mm => mm.cell ct
          have mn : ∀ mm : QW W1, mm.val.cell? ⟨B, 2, none⟩ = some (.slice A1 ns.length c1n) := fun mm => mm.cell cn
          have mc : ∀ mm : QW W1, mm.val.cell? ⟨B, 3, none⟩ = some (.slice A2 ks.length c2n) := fun mm => mm.cell cc
          refine wp_region_q (by kernel_rfl) (by kernel_rfl) ?_
          (repeat (go_big_quiet_step (fail)))
          refine wpQuiet_nil ?_
          rintro w2 ⟨m2, hm2⟩
          have hq2 : Q W1 w2 := by rw [hm2]; exact m2.le
          clear m2 hm2 mt mn mc
          have ck := hq2.cell ck
          have ct := hq2.cell ct
          have cn := hq2.cell cn
          have cc := hq2.cell cc
          have HG2 := Lib.hid (HG1.out.reader hq2)
          have HL2 : Hid (LfB w2 lb (L - 1)) := Lib.hid (hq2.block HL1.out)
          have HQ2 := Lib.hid hq2
          clear hq2
          go_wp2_with fail
          refine (HCt.out _ HG2.out).mono ?_
          rintro e w3 ⟨rfl, hq3⟩
          have HG2 := Lib.hid (HG2.out.reader hq3)
          have HL2 : Hid (LfB w3 lb (L - 1)) := Lib.hid (hq3.block HL2.out)
          have cc := hq3.cell cc
          rw [HAn.out]
          clear hq3 ck ct cn
          go_wp2_with fail
          go_ret
          exact rt_end false HB.out (fun e => by cases e) HL0.out HG2.out HL2.out
        · have hln2 : (((ns.length : Int)) != (ks.length : Int)) = false := by simp; omega
          have hut := h.ut
          have hqj := h.q
          have hltj := h.lt
          have hjv := h.jv
          have hbgn := h.big
          rw [bigJ] at hbgn
          rw [JV] at hjv
          have hnv := hjv.1
          have HCt : Hid (∀ W, GX [lb] w W → Calls Tryd.prog 35 #[vn, .func (.func 97) #[] #[]] W fun e w' => e = .returned (.bool (ns.any fun x => !(Lib.validD x))) ∧ Q W w') := Lib.hid (fun W hg => by
            have hqW : Q wJ W := hg.toQ hqj (by intro x hx; simp at hx; rw [hx]; exact hltj)
            exact contains_func 97 #[] (enters_of Tryd.func97 (by kernel_rfl) rfl) (fun x => !(Lib.validD x)) ns vn W (hnv.mono (fun _ _ => hqW.cell)) (fun i hi X hX => by
              have hx : (gL ns i).length ≤ 9223372036854775807 := hbgn.2.1 _ (by simp [gL, List.getD, hi])
              simpa using right1_any (gL ns i) hx X (Utf8Tabs_below hut (hqW.trans hX))))
          clear hut hqj hltj hjv hbgn hnv
          have HAn : Hid ((ns.any fun x => !(Lib.validD x)) = false) := Lib.hid han
          have hte : List.isEmpty t = true := by simp [ht]
          have g20 : (D == 20) = false := by simp; omega
          have HWf : Hid (wfJ (.mk 7 t ns ks) d = wfKs ks (d - 1)) := Lib.hid (by
            have h0 : 0 < d := by omega
            have hn : ns.all Lib.validD = true := List.all_eq_true.2 hall
            rw [wfJ]; simp [ht, hln, hn, h0])
          have HL0 : Hid (0 ≤ L - 1) := Lib.hid (by omega)
          have HIH := Lib.hid (IH (by omega))
          have hDl : (0 : Int) ≤ D := by omega
          have hDu : D ≤ 20 := by omega
          clear ht hD hd0 IH hln han hall
          have clb : w.cell? ⟨lb, 0, none⟩ = some (.int .i64 L) := by rw [cell_of_row _ _ _ _ _ _ h.lf]; rfl
          have flb := frozen_of_row w lb 0 _ _ h.lf
          have hlt := lt_of_heap h.lf
          have g0 : decide (L - 1 < 0) = false := by simp; omega
          have gl1 : (0 : Int) ≤ L - 1 := by omega
          have H := Lib.hid h
          obtain ⟨⟨A1, c1n, rfl, _⟩, A2, c2n, rfl, _⟩ := jv_form h.jv
          clear h
          go_enter Tryd.func64, Tryd.ntmps64
          go_upto_region 4 with (fail)
          obtain ⟨B, hB⟩ : ∃ B, w.heap.size = B := ⟨_, rfl⟩
          have HBw := Lib.hid hB
          have HB1 := Lib.hid (heap_alloc_new (w.setCell ⟨lb, 0, none⟩ (.int .i64 (L - 1))) (.cells (cellJ (.mk 7 t ns ks) (.slice A1 ns.length c1n) (.slice A2 ks.length c2n)).toArray 40))
          have HG1 : Hid (GX [lb] w ((w.setCell ⟨lb, 0, none⟩ (.int .i64 (L - 1))).alloc (.cells (cellJ (.mk 7 t ns ks) (.slice A1 ns.length c1n) (.slice A2 ks.length c2n)).toArray 40))) := Lib.hid (((GX.refl [lb] w).set (by simp) _ _).reader ((Q.refl _).alloc _))
          have HL1 : Hid (LfB ((w.setCell ⟨lb, 0, none⟩ (.int .i64 (L - 1))).alloc (.cells (cellJ (.mk 7 t ns ks) (.slice A1 ns.length c1n) (.slice A2 ks.length c2n)).toArray 40)) lb (L - 1)) := Lib.hid (((Q.refl _).alloc _).block (by rw [heap_setCell_any w lb 0 _ _ _ _ H.out.lf]; rfl))
          have hsz : (w.setCell ⟨lb, 0, none⟩ (.int .i64 (L - 1))).heap.size = B := by rw [← hB]; simp
          obtain ⟨W1, hW1⟩ : ∃ W1, (w.setCell ⟨lb, 0, none⟩ (.int .i64 (L - 1))).alloc (.cells (cellJ (.mk 7 t ns ks) (.slice A1 ns.length c1n) (.slice A2 ks.length c2n)).toArray 40) = W1 := ⟨_, rfl⟩
          rw [hW1] at HB1 HG1 HL1
          rw [hsz] at HB1
          rw [hW1, hB]
          clear hW1 hB hsz clb flb
          have ck : W1.cell? ⟨B, 0, none⟩ = some (.int .i64 7) := by rw [cell_of_row _ _ _ _ _ _ HB1.out]; rfl
          have ct : W1.cell? ⟨B, 1, none⟩ = some (.string ⟨t.toArray⟩) := by rw [cell_of_row _ _ _ _ _ _ HB1.out]; rfl
          have cn : W1.cell? ⟨B, 2, none⟩ = some (.slice A1 ns.length c1n) := by rw [cell_of_row _ _ _ _ _ _ HB1.out]; rfl
          have cc : W1.cell? ⟨B, 3, none⟩ = some (.slice A2 ks.length c2n) := by rw [cell_of_row _ _ _ _ _ _ HB1.out]; rfl
          have mt : ∀ mm : QW W1, mm.val.cell? ⟨B, 1, none⟩ = some (.string ⟨t.toArray⟩) := fun mm => mm.cell ct
          have mn : ∀ mm : QW W1, mm.val.cell? ⟨B, 2, none⟩ = some (.slice A1 ns.length c1n) := fun mm => mm.cell cn
          have mc : ∀ mm : QW W1, mm.val.cell? ⟨B, 3, none⟩ = some (.slice A2 ks.length c2n) := fun mm => mm.cell cc
          refine wp_region_q (by kernel_rfl) (by kernel_rfl) ?_
          (repeat (go_big_quiet_step (fail)))
          refine wpQuiet_nil ?_
          rintro w2 ⟨m2, hm2⟩
          have hq2 : Q W1 w2 := by rw [hm2]; exact m2.le
          clear m2 hm2 mt mn mc
          have ck := hq2.cell ck
          have ct := hq2.cell ct
          have cn := hq2.cell cn
          have cc := hq2.cell cc
          have HG2 := Lib.hid (HG1.out.reader hq2)
          have HL2 : Hid (LfB w2 lb (L - 1)) := Lib.hid (hq2.block HL1.out)
          have HQ2 := Lib.hid hq2
          clear hq2
          go_wp2_with fail
          refine (HCt.out _ HG2.out).mono ?_
          rintro e w3 ⟨rfl, hq3⟩
          have HG2 := Lib.hid (HG2.out.reader hq3)
          have HL2 : Hid (LfB w3 lb (L - 1)) := Lib.hid (hq3.block HL2.out)
          have cc := hq3.cell cc
          rw [HAn.out]
          clear hq3 ck ct cn
          obtain ⟨W2, hW2⟩ : ∃ W2, w3 = W2 := ⟨_, rfl⟩
          subst hW2
          go_upto_region 24 with (fail)
          clear cc
          have HS0 : Hid (KidsSt w lb L ks d 0 w3) := Lib.hid ⟨HG2.out, by rw [List.take_zero, cntKs]; simpa using HL2.out, by rw [List.take_zero, cntKs]; have := HL0.out; simp; omega, by rw [List.take_zero, wfKs]⟩
          go_loopw [94] (fun i wx => ∃ k' : Nat, k' ≤ ks.length ∧ i = .int .i64 k' ∧ Hid (KidsSt w lb L ks d k' wx)) (fun i _ => ks.length - (intOf i).toNat)
          case atStart => exact ⟨0, by omega, rfl, HS0⟩
          case round =>
            obtain ⟨k', hk', rfl, HI⟩ := hrel
            rename World => wa
            by_cases hlt : k' < ks.length
            · have hd1 : decide (k' < ks.length) = true := by simpa using hlt
              obtain ⟨B0, c0, e0, _, _, hkid⟩ := H.out.jv.kid
              obtain ⟨g, off, vn', vk', e1, y0, y1, y2, y3, yv⟩ := hkid k' hlt
              subst e1
              injection e0 with e2 _ e3
              subst e2
              have HJv := Lib.hid yv
              have hqa : Q wJ wa := HI.out.1.toQ H.out.q (by intro x hx; simp at hx; rw [hx]; exact H.out.lt)
              have HRg : Hid (wa.rangeAt g (off + k' * 4) (cellJ (gK ks k') vn' vk')) := Lib.hid (fun j u hu => by
                match j, hu with
                | 0, hu => injection hu with hu; subst hu; exact hqa.cell y0
                | 1, hu => injection hu with hu; subst hu; exact hqa.cell y1
                | 2, hu => injection hu with hu; subst hu; exact hqa.cell y2
                | 3, hu => injection hu with hu; subst hu; exact hqa.cell y3
                | n + 4, hu => simp [cellJ, jsonC] at hu)
              have hbg := H.out.big
              rw [bigJ] at hbg
              have HBg := Lib.hid (bigKs_gK hbg.2.2 hlt)
              obtain ⟨j', hj'⟩ : ∃ j', gK ks k' = j' := ⟨_, rfl⟩
              have HJ' := Lib.hid hj'
              rw [hj'] at HJv HRg HBg
              have HKid : Hid (∀ W L', RtH j' wJ W vn' vk' lb L' → 0 ≤ L' → L' ≤ 8000 → Calls Tryd.prog 64 #[.agg (cellJ j' vn' vk').toArray, .int .i64 (D + 1), .pointer (some ⟨lb, 0, none⟩)] W (RtP j' (d - 1) L' lb W)) := Lib.hid (fun W L' h1 h2 h3 => by
                have := HIH.out k' hlt W vn' vk' L'
                rw [hj'] at this
                exact this h1 h2 h3)
              have HIn : Hid ((Tryd.prog.info? 40).map (·.size) = some (cellJ j' vn' vk').length) := Lib.hid (info_sz j' vn' vk')
              obtain ⟨⟨_, _, _, f1⟩, ⟨_, _, _, f2⟩⟩ := jv_slices HJv.out
              have HOne := Lib.hid (cellJ_one (j := j') ⟨_, _, _, f1⟩ ⟨_, _, _, f2⟩)
              have HZa : Hid (w.heap.size ≤ wa.heap.size) := Lib.hid HI.out.1.size
              clear y0 y1 y2 y3 yv hqa hbg hj' f1 f2 hkid e3
              go_upto_region 25 with (fail)
              iterate 4 go_step
              refine wpList_load_mid rfl 40 (.tmp 96) rfl g (off + k' * 4) rfl (cellJ j' vn' vk') _ HRg.out Tryd.underlying40 rfl HIn.out ?_
              simp only [Act.put, List.setIfInBounds_toArray, List.set_cons_succ, List.set_cons_zero]
              go_upto_region 26 with (refine wpList_store_row rfl 40 (.tmp 11) (.tmp 97) rfl wa.heap.size (cellJ j' vn' vk').toArray rfl rfl 40 _ (heap_alloc_new wa _) HIn.out rfl HOne.out ?_)
              simp only [Act.put]
              have HB3 : Hid (((wa.alloc (.cells #[.int .i64 0, .string ⟨#[]⟩, .slice none 0 0, .slice none 0 0] 40)).setRow wa.heap.size (cellJ j' vn' vk').toArray).heap[wa.heap.size]? = some (.cells (cellJ j' vn' vk').toArray 40 (0, 0))) := Lib.hid (setRow_at (heap_alloc_new wa _) _)
              have HQ3 : Hid (Q wa ((wa.alloc (.cells #[.int .i64 0, .string ⟨#[]⟩, .slice none 0 0, .slice none 0 0] 40)).setRow wa.heap.size (cellJ j' vn' vk').toArray)) := Lib.hid (((Q.refl wa).alloc _).setRow (Nat.le_refl _) _)
              obtain ⟨N3, hN3⟩ : ∃ N3, wa.heap.size = N3 := ⟨_, rfl⟩
              obtain ⟨W3, hW3⟩ : ∃ W3, (wa.alloc (.cells #[.int .i64 0, .string ⟨#[]⟩, .slice none 0 0, .slice none 0 0] 40)).setRow N3 (cellJ j' vn' vk').toArray = W3 := ⟨_, rfl⟩
              rw [hN3, hW3] at HB3 HQ3
              rw [hN3, hW3]
              clear hN3 hW3
              have HK3 := Lib.hid (HKid.out W3 _ ⟨HJv.out, (HI.out.1.toQ H.out.q (by intro x hx; simp at hx; rw [hx]; exact H.out.lt)).trans HQ3.out, H.out.ut, H.out.lt, HQ3.out.block HI.out.2.1, HBg.out⟩ (by have := HI.out.2.2.1; omega) (by omega))
              iterate 1 go_step
              refine wpList_load_row rfl 40 (.tmp 11) rfl N3 rfl 40 (cellJ j' vn' vk').toArray (0, 0) _ HB3.out Tryd.underlying40 rfl HIn.out ?_
              simp only [Act.put, List.setIfInBounds_toArray, List.set_cons_succ, List.set_cons_zero]
              go_wp2_with fail
              refine HK3.out.mono ?_
              rintro e w4 ⟨rfl, hg4, L', hl4, hl5, hl6⟩
              have HG4 := Lib.hid ((HI.out.1.reader HQ3.out).trans hg4)
              have HL4 := Lib.hid hl4
              have HL5 := Lib.hid hl5
              have HL6 := Lib.hid hl6
              obtain ⟨rb, hrb⟩ : ∃ rb, rtB j' (d - 1) (L - 1 - (cntKs (ks.take k') : Int)) = rb := ⟨_, rfl⟩
              have HRb := Lib.hid hrb
              rw [hrb]
              clear hg4 hl4 hl5 hl6 hrb HK3 HKid
              cases rb with
              | false =>
                have HX : Hid (RtP (.mk 7 t ns ks) d L lb w (.returned (.bool false)) w4) := Lib.hid (kids_no hlt HI.out HWf.out (by rw [HJ'.out]; exact HRb.out) HG4.out HL4.out HL5.out)
                go_wp2_with fail
                go_ret
                exact HX.out
              | true =>
                have HX : Hid (KidsSt w lb L ks d (k' + 1) w4) := Lib.hid (kids_next hlt HI.out (by rw [HJ'.out]; exact HRb.out) HG4.out HL4.out (by rw [HJ'.out]; exact HL6.out HRb.out))
                go_wp2_with fail
                go_roundw
                case rel => exact ⟨k' + 1, by omega, by go_num, HX⟩
                case measure => simp [intOf]; omega
            · have hd1 : decide (k' < ks.length) = false := by simpa using hlt
              obtain rfl : k' = ks.length := by omega
              have HX : Hid (RtP (.mk 7 t ns ks) d L lb w (.returned (.bool true)) wa) := Lib.hid (kids_yes HI.out HWf.out)
              go_wp2_with fail
              go_ret
              exact HX.out
      · have hln2 : (((ns.length : Int)) != (ks.length : Int)) = false := by simp; omega
        have hut := h.ut
        have hqj := h.q
        have hltj := h.lt
        have hjv := h.jv
        have hbgn := h.big
        rw [bigJ] at hbgn
        rw [JV] at hjv
        have hnv := hjv.1
        have HCt : Hid (∀ W, GX [lb] w W → Calls Tryd.prog 35 #[vn, .func (.func 97) #[] #[]] W fun e w' => e = .returned (.bool (ns.any fun x => !(Lib.validD x))) ∧ Q W w') := Lib.hid (fun W hg => by
          have hqW : Q wJ W := hg.toQ hqj (by intro x hx; simp at hx; rw [hx]; exact hltj)
          exact contains_func 97 #[] (enters_of Tryd.func97 (by kernel_rfl) rfl) (fun x => !(Lib.validD x)) ns vn W (hnv.mono (fun _ _ => hqW.cell)) (fun i hi X hX => by
            have hx : (gL ns i).length ≤ 9223372036854775807 := hbgn.2.1 _ (by simp [gL, List.getD, hi])
            simpa using right1_any (gL ns i) hx X (Utf8Tabs_below hut (hqW.trans hX))))
        clear hut hqj hltj hjv hbgn hnv
        have HAn : Hid ((ns.any fun x => !(Lib.validD x)) = false) := Lib.hid han
        have HB : Hid (wfJ (.mk 7 t ns ks) d = false) := Lib.hid (by rw [wfJ]; simp [ht])
        have hte : List.isEmpty t = false := by simp [ht]
        have HL0 := Lib.hid hL
        clear ht hD hln han hall
        have clb : w.cell? ⟨lb, 0, none⟩ = some (.int .i64 L) := by rw [cell_of_row _ _ _ _ _ _ h.lf]; rfl
        have flb := frozen_of_row w lb 0 _ _ h.lf
        have hlt := lt_of_heap h.lf
        have g0 : decide (L - 1 < 0) = false := by simp; omega
        have gl1 : (0 : Int) ≤ L - 1 := by omega
        have H := Lib.hid h
        obtain ⟨⟨A1, c1n, rfl, _⟩, A2, c2n, rfl, _⟩ := jv_form h.jv
        clear h
        go_enter Tryd.func64, Tryd.ntmps64
        go_upto_region 4 with (fail)
        obtain ⟨B, hB⟩ : ∃ B, w.heap.size = B := ⟨_, rfl⟩
        have HBw := Lib.hid hB
        have HB1 := Lib.hid (heap_alloc_new (w.setCell ⟨lb, 0, none⟩ (.int .i64 (L - 1))) (.cells (cellJ (.mk 7 t ns ks) (.slice A1 ns.length c1n) (.slice A2 ks.length c2n)).toArray 40))
        have HG1 : Hid (GX [lb] w ((w.setCell ⟨lb, 0, none⟩ (.int .i64 (L - 1))).alloc (.cells (cellJ (.mk 7 t ns ks) (.slice A1 ns.length c1n) (.slice A2 ks.length c2n)).toArray 40))) := Lib.hid (((GX.refl [lb] w).set (by simp) _ _).reader ((Q.refl _).alloc _))
        have HL1 : Hid (LfB ((w.setCell ⟨lb, 0, none⟩ (.int .i64 (L - 1))).alloc (.cells (cellJ (.mk 7 t ns ks) (.slice A1 ns.length c1n) (.slice A2 ks.length c2n)).toArray 40)) lb (L - 1)) := Lib.hid (((Q.refl _).alloc _).block (by rw [heap_setCell_any w lb 0 _ _ _ _ H.out.lf]; rfl))
        have hsz : (w.setCell ⟨lb, 0, none⟩ (.int .i64 (L - 1))).heap.size = B := by rw [← hB]; simp
        obtain ⟨W1, hW1⟩ : ∃ W1, (w.setCell ⟨lb, 0, none⟩ (.int .i64 (L - 1))).alloc (.cells (cellJ (.mk 7 t ns ks) (.slice A1 ns.length c1n) (.slice A2 ks.length c2n)).toArray 40) = W1 := ⟨_, rfl⟩
        rw [hW1] at HB1 HG1 HL1
        rw [hsz] at HB1
        rw [hW1, hB]
        clear hW1 hB hsz clb flb
        have ck : W1.cell? ⟨B, 0, none⟩ = some (.int .i64 7) := by rw [cell_of_row _ _ _ _ _ _ HB1.out]; rfl
        have ct : W1.cell? ⟨B, 1, none⟩ = some (.string ⟨t.toArray⟩) := by rw [cell_of_row _ _ _ _ _ _ HB1.out]; rfl
        have cn : W1.cell? ⟨B, 2, none⟩ = some (.slice A1 ns.length c1n) := by rw [cell_of_row _ _ _ _ _ _ HB1.out]; rfl
        have cc : W1.cell? ⟨B, 3, none⟩ = some (.slice A2 ks.length c2n) := by rw [cell_of_row _ _ _ _ _ _ HB1.out]; rfl
        have mt : ∀ mm : QW W1, mm.val.cell? ⟨B, 1, none⟩ = some (.string ⟨t.toArray⟩) := fun mm => mm.cell ct
        have mn : ∀ mm : QW W1, mm.val.cell? ⟨B, 2, none⟩ = some (.slice A1 ns.length c1n) := fun mm => mm.cell cn
        have mc : ∀ mm : QW W1, mm.val.cell? ⟨B, 3, none⟩ = some (.slice A2 ks.length c2n) := fun mm => mm.cell cc
        refine wp_region_q (by kernel_rfl) (by kernel_rfl) ?_
        (repeat (go_big_quiet_step (fail)))
        refine wpQuiet_nil ?_
        rintro w2 ⟨m2, hm2⟩
        have hq2 : Q W1 w2 := by rw [hm2]; exact m2.le
        clear m2 hm2 mt mn mc
        have ck := hq2.cell ck
        have ct := hq2.cell ct
        have cn := hq2.cell cn
        have cc := hq2.cell cc
        have HG2 := Lib.hid (HG1.out.reader hq2)
        have HL2 : Hid (LfB w2 lb (L - 1)) := Lib.hid (hq2.block HL1.out)
        have HQ2 := Lib.hid hq2
        clear hq2
        go_wp2_with fail
        refine (HCt.out _ HG2.out).mono ?_
        rintro e w3 ⟨rfl, hq3⟩
        have HG2 := Lib.hid (HG2.out.reader hq3)
        have HL2 : Hid (LfB w3 lb (L - 1)) := Lib.hid (hq3.block HL2.out)
        have cc := hq3.cell cc
        rw [HAn.out]
        clear hq3 ck ct cn
        go_wp2_with fail
        go_ret
        exact rt_end false HB.out (fun e => by cases e) HL0.out HG2.out HL2.out
    · have hut := h.ut
      have hqj := h.q
      have hltj := h.lt
      have hjv := h.jv
      have hbgn := h.big
      rw [bigJ] at hbgn
      rw [JV] at hjv
      have hnv := hjv.1
      have HCt : Hid (∀ W, GX [lb] w W → Calls Tryd.prog 35 #[vn, .func (.func 97) #[] #[]] W fun e w' => e = .returned (.bool (ns.any fun x => !(Lib.validD x))) ∧ Q W w') := Lib.hid (fun W hg => by
        have hqW : Q wJ W := hg.toQ hqj (by intro x hx; simp at hx; rw [hx]; exact hltj)
        exact contains_func 97 #[] (enters_of Tryd.func97 (by kernel_rfl) rfl) (fun x => !(Lib.validD x)) ns vn W (hnv.mono (fun _ _ => hqW.cell)) (fun i hi X hX => by
          have hx : (gL ns i).length ≤ 9223372036854775807 := hbgn.2.1 _ (by simp [gL, List.getD, hi])
          simpa using right1_any (gL ns i) hx X (Utf8Tabs_below hut (hqW.trans hX))))
      clear hut hqj hltj hjv hbgn hnv
      have HAn : Hid ((ns.any fun x => !(Lib.validD x)) = true) := Lib.hid (by
        rw [List.any_eq_true]
        apply Classical.byContradiction
        intro hno
        exact hall (fun x hx => by
          apply Classical.byContradiction
          intro hv
          exact hno ⟨x, hx, by simp [hv]⟩))
      have hln2 : (((ns.length : Int)) != (ks.length : Int)) = false := by simp; omega
      have HB : Hid (wfJ (.mk 7 t ns ks) d = false) := Lib.hid (by
        rw [wfJ]
        have hn : ns.all Lib.validD = false := by
          rw [Bool.eq_false_iff]
          intro e
          exact hall (List.all_eq_true.1 e)
        simp [hn])
      have HL0 := Lib.hid hL
      clear hln hall hD
      have clb : w.cell? ⟨lb, 0, none⟩ = some (.int .i64 L) := by rw [cell_of_row _ _ _ _ _ _ h.lf]; rfl
      have flb := frozen_of_row w lb 0 _ _ h.lf
      have hlt := lt_of_heap h.lf
      have g0 : decide (L - 1 < 0) = false := by simp; omega
      have gl1 : (0 : Int) ≤ L - 1 := by omega
      have H := Lib.hid h
      obtain ⟨⟨A1, c1n, rfl, _⟩, A2, c2n, rfl, _⟩ := jv_form h.jv
      clear h
      go_enter Tryd.func64, Tryd.ntmps64
      go_upto_region 4 with (fail)
      obtain ⟨B, hB⟩ : ∃ B, w.heap.size = B := ⟨_, rfl⟩
      have HBw := Lib.hid hB
      have HB1 := Lib.hid (heap_alloc_new (w.setCell ⟨lb, 0, none⟩ (.int .i64 (L - 1))) (.cells (cellJ (.mk 7 t ns ks) (.slice A1 ns.length c1n) (.slice A2 ks.length c2n)).toArray 40))
      have HG1 : Hid (GX [lb] w ((w.setCell ⟨lb, 0, none⟩ (.int .i64 (L - 1))).alloc (.cells (cellJ (.mk 7 t ns ks) (.slice A1 ns.length c1n) (.slice A2 ks.length c2n)).toArray 40))) := Lib.hid (((GX.refl [lb] w).set (by simp) _ _).reader ((Q.refl _).alloc _))
      have HL1 : Hid (LfB ((w.setCell ⟨lb, 0, none⟩ (.int .i64 (L - 1))).alloc (.cells (cellJ (.mk 7 t ns ks) (.slice A1 ns.length c1n) (.slice A2 ks.length c2n)).toArray 40)) lb (L - 1)) := Lib.hid (((Q.refl _).alloc _).block (by rw [heap_setCell_any w lb 0 _ _ _ _ H.out.lf]; rfl))
      have hsz : (w.setCell ⟨lb, 0, none⟩ (.int .i64 (L - 1))).heap.size = B := by rw [← hB]; simp
      obtain ⟨W1, hW1⟩ : ∃ W1, (w.setCell ⟨lb, 0, none⟩ (.int .i64 (L - 1))).alloc (.cells (cellJ (.mk 7 t ns ks) (.slice A1 ns.length c1n) (.slice A2 ks.length c2n)).toArray 40) = W1 := ⟨_, rfl⟩
      rw [hW1] at HB1 HG1 HL1
      rw [hsz] at HB1
      rw [hW1, hB]
      clear hW1 hB hsz clb flb
      have ck : W1.cell? ⟨B, 0, none⟩ = some (.int .i64 7) := by rw [cell_of_row _ _ _ _ _ _ HB1.out]; rfl
      have ct : W1.cell? ⟨B, 1, none⟩ = some (.string ⟨t.toArray⟩) := by rw [cell_of_row _ _ _ _ _ _ HB1.out]; rfl
      have cn : W1.cell? ⟨B, 2, none⟩ = some (.slice A1 ns.length c1n) := by rw [cell_of_row _ _ _ _ _ _ HB1.out]; rfl
      have cc : W1.cell? ⟨B, 3, none⟩ = some (.slice A2 ks.length c2n) := by rw [cell_of_row _ _ _ _ _ _ HB1.out]; rfl
      have mt : ∀ mm : QW W1, mm.val.cell? ⟨B, 1, none⟩ = some (.string ⟨t.toArray⟩) := fun mm => mm.cell ct
      have mn : ∀ mm : QW W1, mm.val.cell? ⟨B, 2, none⟩ = some (.slice A1 ns.length c1n) := fun mm => mm.cell cn
      have mc : ∀ mm : QW W1, mm.val.cell? ⟨B, 3, none⟩ = some (.slice A2 ks.length c2n) := fun mm => mm.cell cc
      refine wp_region_q (by kernel_rfl) (by kernel_rfl) ?_
      (repeat (go_big_quiet_step (fail)))
      refine wpQuiet_nil ?_
      rintro w2 ⟨m2, hm2⟩
      have hq2 : Q W1 w2 := by rw [hm2]; exact m2.le
      clear m2 hm2 mt mn mc
      have ck := hq2.cell ck
      have ct := hq2.cell ct
      have cn := hq2.cell cn
      have cc := hq2.cell cc
      have HG2 := Lib.hid (HG1.out.reader hq2)
      have HL2 : Hid (LfB w2 lb (L - 1)) := Lib.hid (hq2.block HL1.out)
      have HQ2 := Lib.hid hq2
      clear hq2
      go_wp2_with fail
      refine (HCt.out _ HG2.out).mono ?_
      rintro e w3 ⟨rfl, hq3⟩
      have HG2 := Lib.hid (HG2.out.reader hq3)
      have HL2 : Hid (LfB w3 lb (L - 1)) := Lib.hid (hq3.block HL2.out)
      have cc := hq3.cell cc
      rw [HAn.out]
      clear hq3 ck ct cn
      go_wp2_with fail
      go_ret
      exact rt_end false HB.out (fun e => by cases e) HL0.out HG2.out HL2.out
  · have hln2 : (((ns.length : Int)) != (ks.length : Int)) = true := by simp; omega
    have HB : Hid (wfJ (.mk 7 t ns ks) d = false) := Lib.hid (by rw [wfJ]; simp [hln])
    have HL0 := Lib.hid hL
    clear hln hD
    have clb : w.cell? ⟨lb, 0, none⟩ = some (.int .i64 L) := by rw [cell_of_row _ _ _ _ _ _ h.lf]; rfl
    have flb := frozen_of_row w lb 0 _ _ h.lf
    have hlt := lt_of_heap h.lf
    have g0 : decide (L - 1 < 0) = false := by simp; omega
    have gl1 : (0 : Int) ≤ L - 1 := by omega
    have H := Lib.hid h
    obtain ⟨⟨A1, c1n, rfl, _⟩, A2, c2n, rfl, _⟩ := jv_form h.jv
    clear h
    go_enter Tryd.func64, Tryd.ntmps64
    go_upto_region 4 with (fail)
    obtain ⟨B, hB⟩ : ∃ B, w.heap.size = B := ⟨_, rfl⟩
    have HBw := Lib.hid hB
    have HB1 := Lib.hid (heap_alloc_new (w.setCell ⟨lb, 0, none⟩ (.int .i64 (L - 1))) (.cells (cellJ (.mk 7 t ns ks) (.slice A1 ns.length c1n) (.slice A2 ks.length c2n)).toArray 40))
    have HG1 : Hid (GX [lb] w ((w.setCell ⟨lb, 0, none⟩ (.int .i64 (L - 1))).alloc (.cells (cellJ (.mk 7 t ns ks) (.slice A1 ns.length c1n) (.slice A2 ks.length c2n)).toArray 40))) := Lib.hid (((GX.refl [lb] w).set (by simp) _ _).reader ((Q.refl _).alloc _))
    have HL1 : Hid (LfB ((w.setCell ⟨lb, 0, none⟩ (.int .i64 (L - 1))).alloc (.cells (cellJ (.mk 7 t ns ks) (.slice A1 ns.length c1n) (.slice A2 ks.length c2n)).toArray 40)) lb (L - 1)) := Lib.hid (((Q.refl _).alloc _).block (by rw [heap_setCell_any w lb 0 _ _ _ _ H.out.lf]; rfl))
    have hsz : (w.setCell ⟨lb, 0, none⟩ (.int .i64 (L - 1))).heap.size = B := by rw [← hB]; simp
    obtain ⟨W1, hW1⟩ : ∃ W1, (w.setCell ⟨lb, 0, none⟩ (.int .i64 (L - 1))).alloc (.cells (cellJ (.mk 7 t ns ks) (.slice A1 ns.length c1n) (.slice A2 ks.length c2n)).toArray 40) = W1 := ⟨_, rfl⟩
    rw [hW1] at HB1 HG1 HL1
    rw [hsz] at HB1
    rw [hW1, hB]
    clear hW1 hB hsz clb flb
    have ck : W1.cell? ⟨B, 0, none⟩ = some (.int .i64 7) := by rw [cell_of_row _ _ _ _ _ _ HB1.out]; rfl
    have ct : W1.cell? ⟨B, 1, none⟩ = some (.string ⟨t.toArray⟩) := by rw [cell_of_row _ _ _ _ _ _ HB1.out]; rfl
    have cn : W1.cell? ⟨B, 2, none⟩ = some (.slice A1 ns.length c1n) := by rw [cell_of_row _ _ _ _ _ _ HB1.out]; rfl
    have cc : W1.cell? ⟨B, 3, none⟩ = some (.slice A2 ks.length c2n) := by rw [cell_of_row _ _ _ _ _ _ HB1.out]; rfl
    have mt : ∀ mm : QW W1, mm.val.cell? ⟨B, 1, none⟩ = some (.string ⟨t.toArray⟩) := fun mm => mm.cell ct
    have mn : ∀ mm : QW W1, mm.val.cell? ⟨B, 2, none⟩ = some (.slice A1 ns.length c1n) := fun mm => mm.cell cn
    have mc : ∀ mm : QW W1, mm.val.cell? ⟨B, 3, none⟩ = some (.slice A2 ks.length c2n) := fun mm => mm.cell cc
    refine wp_region_q (by kernel_rfl) (by kernel_rfl) ?_
    (repeat (go_big_quiet_step (fail)))
    refine wpQuiet_nil ?_
    rintro w2 ⟨m2, hm2⟩
    have hq2 : Q W1 w2 := by rw [hm2]; exact m2.le
    clear m2 hm2 mt mn mc
    have ck := hq2.cell ck
    have ct := hq2.cell ct
    have cn := hq2.cell cn
    have cc := hq2.cell cc
    have HG2 := Lib.hid (HG1.out.reader hq2)
    have HL2 : Hid (LfB w2 lb (L - 1)) := Lib.hid (hq2.block HL1.out)
    have HQ2 := Lib.hid hq2
    clear hq2
    go_wp2_with fail
    go_ret
    exact rt_end false HB.out (fun e => by cases e) HL0.out HG2.out HL2.out
end Go.Proofs.YtlhhiiemojhjdaaDoor
