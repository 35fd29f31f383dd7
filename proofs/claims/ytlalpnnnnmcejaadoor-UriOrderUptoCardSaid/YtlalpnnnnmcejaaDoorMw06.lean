/- Texts of this proof, laid into one: UrV, UrW. -/
import Derived.Test.YtlalpnnnnmcejaaDoorMw05
import Derived.Test.YtlalpnnnnmcejaaDoorRows
import Derived.SizedLaws
import Derived.Deep.Slices
/- UriOrder: the law. -/
set_option linter.unusedVariables false
set_option linter.unusedSimpArgs false
namespace Go.Proofs.YtlalpnnnnmcejaaDoor
open Go Go.RowKit
theorem pairs_cells {w : World} {g off n : Nat} {ps : List PairD} (h : PairsAt w (some ⟨g, off, none⟩) n ps) (k m : Nat) (hk : k + m ≤ n) : ∀ j u, (cellsU ((ps.drop k).take m))[j]? = some u → w.cell? ((⟨g, off + k * 2, none⟩ : Addr).add j) = some u := by
  intro j u hu
  have hn := h.1
  have hlen : ((ps.drop k).take m).length = m := by simp; omega
  have hj : j < m * 2 := by
    have := (List.getElem?_eq_some_iff.1 hu).1
    rwa [cellsU_len, hlen] at this
  obtain ⟨g', off', e, _, hc⟩ := h.2 (by omega)
  cases e
  have hd : j / 2 < ((ps.drop k).take m).length := by rw [hlen]; omega
  have e1 := cellsU_at ((ps.drop k).take m) (j / 2) hd (j % 2) (Nat.mod_lt _ (by omega))
  rw [show j / 2 * 2 + j % 2 = j by omega, hu] at e1
  have e2 : ((ps.drop k).take m)[j / 2] = ps[k + j / 2]'(by omega) := by simp
  rw [e2] at e1
  have := hc (k + j / 2) (by omega) (j % 2) u e1.symm
  rw [add_off]
  rw [show off + k * 2 + j = off + (k + j / 2) * 2 + j % 2 by omega]
  exact this
theorem OwnU.cap {w0 w : World} {A : Option Addr} {n cap : Nat} {l : List PairD} (h : OwnU w0 w (.slice A n cap) l) (hn : n ≠ 0) : cap ≤ 9223372036854775807 := by
  rcases h.2 with ⟨h1, _⟩ | ⟨g, c2, cur, h1, _, _, _, hm, _⟩
  · injection h1 with _ h2 _; omega
  · injection h1 with _ _ h3; subst h3; exact hm
theorem OwnU.el {w0 w : World} {A : Option Addr} {n cap : Nat} {l : List PairD} (h : OwnU w0 w (.slice A n cap) l) {j : Nat} (hj : j < l.length) : ∃ g, A = some ⟨g, 0, none⟩ ∧ w.cell? ⟨g, j * 2, none⟩ = some (.string ⟨(gU l j).1.toArray⟩) ∧ w.cell? ⟨g, j * 2 + 1, none⟩ = some (.string ⟨(gU l j).2.toArray⟩) ∧ w0.heap.size ≤ g ∧ g < w.heap.size := by
  obtain ⟨A', c', e, _, hc⟩ := h.at
  injection e with e1 _ _
  subst e1
  obtain ⟨g, hA, e0, e1⟩ := hc j hj
  have hb := h.block (k := g) (by rw [hA]; rfl)
  have hg : l[j] = gU l j := by simp [gU, List.getD, hj]
  rw [hg] at e0 e1
  exact ⟨g, hA, e0, e1, hb.1, hb.2.1⟩
set_option maxRecDepth 100000 in
set_option maxHeartbeats 4000000 in
theorem UriOrder_any (A : Option Addr) (n cap : Nat) (ps : List PairD) (turn : Int) (w : World) (h : PairsAt w A n ps) (hc : n ≤ cap) (hcap : cap ≤ 9223372036854775807) (hn1 : n ≤ 1100000) (hps : ∀ p ∈ ps, p.1.length ≤ 10000000 ∧ p.2.length ≤ 10000000)
    (ht0 : -9223372036854775808 ≤ turn) (ht1 : turn ≤ 9223372036854775807) (hu : U13 w) :
    Calls Tryd.prog 3 #[.slice A n cap, .int .i64 turn] w fun e w' => e = .returned (.bool true) ∧ Q w w' := by
  obtain rfl := h.1
  have HU := Lib.hid hu
  have HPS := Lib.hid hps
  have HP := Lib.hid h
  have HCAP := Lib.hid hcap
  clear hps h hcap hu
  by_cases hz : ps.length = 0
  · clear ht0 ht1
    have hz2 : ((ps.length : Int)) = 0 := by omega
    go_enter Tryd.func3, Tryd.ntmps3
    go_wp2_with fail
    refine (examples13_any _ HU.out).mono ?_
    rintro e w1 ⟨rfl, hq1⟩
    have HQ1 := Lib.hid hq1
    clear hq1
    go_wp2_with fail
    all_goals (go_ret; exact ⟨rfl, HQ1.out⟩)
  · obtain ⟨T, hT⟩ : ∃ T : Nat, (T : Int) = if turn < 0 then -(turn + 1) else turn := ⟨(if turn < 0 then -(turn + 1) else turn).toNat, by split <;> omega⟩
    obtain ⟨k, hk⟩ : ∃ k, T % ps.length = k := ⟨_, rfl⟩
    have hkl : k < ps.length := by rw [← hk]; exact Nat.mod_lt _ (by omega)
    have hmod : (T : Int).tmod (ps.length : Int) = (k : Int) := by rw [← hk, Int.tmod_eq_emod_of_nonneg (by omega)]; exact (Int.natCast_emod _ _).symm
    have hzi : ¬ ((ps.length : Int)) = 0 := by omega
    obtain ⟨g, off, rfl, _, _⟩ := HP.out.at (show 0 < ps.length by omega)
    have hkc : (k : Int) ≤ (cap : Int) := by omega
    have hkn : (k : Int) ≤ (ps.length : Int) := by omega
    have hkc2 : ¬ cap = k := by omega
    by_cases hneg : turn < 0
    · rw [if_pos hneg] at hT
      have w1 : wrap64 (turn + 1) = turn + 1 := by unfold wrap64; omega
      have w2 : wrap64 (-(turn + 1)) = (T : Int) := by rw [hT]; unfold wrap64; omega
      have w3 : IntKind.i64.wrap (turn + 1) = turn + 1 := by rw [IntKind.wrap_i64]; omega
      have w4 : IntKind.i64.wrap (-(turn + 1)) = (T : Int) := by rw [hT, IntKind.wrap_i64]; omega
      clear ht0 ht1 hT hk
      go_enter Tryd.func3, Tryd.ntmps3
      go_wp2_with fail
      refine (examples13_any _ HU.out).mono ?_
      rintro e w1 ⟨rfl, hq1⟩
      have HQ1 := Lib.hid hq1
      clear hq1
      go_upto_region 8 with (fail)
      iterate 13 go_step
      refine wpList_append_us rfl (.tmp 24) (.tmp 27) rfl w1 w1 (.slice none 0 0) [] ((ps.drop k).take (ps.length - k)) rfl (OwnU.nil _ _) ⟨g, off + k * 2, none⟩ (ps.length - k) (cap - k) (by simp) rfl (pairs_cells (HP.out.q HQ1.out) k (ps.length - k) (by omega)) (Nat.le_refl _) (by simp only [List.length_nil]; omega) ?_
      intro va wa hoa hga
      rw [List.nil_append] at hoa
      have hqa : Q w1 wa := gb_q_own hga (Q.refl _) (fun b hb => by cases hb)
      have HOA := Lib.hid hoa
      have HQA := Lib.hid hqa
      clear hoa hqa hga
      go_upto_region 9 with (fail)
      iterate 13 go_step
      refine wpList_append_us rfl (.tmp 29) (.tmp 32) rfl w1 wa va _ ((ps.drop 0).take k) rfl HOA.out ⟨g, off + 0 * 2, none⟩ k cap (by simp; omega) rfl (pairs_cells (HP.out.q (HQ1.out.trans HQA.out)) 0 k (by omega)) HQA.out.size (by simp only [List.length_take, List.length_drop]; omega) ?_
      intro vb wb hob hgb
      have hqb : Q w1 wb := gb_q_own hgb HQA.out (fun b hb => (HOA.out.block hb).1)
      obtain ⟨m0, hm0⟩ : ∃ m0, (ps.drop k).take (ps.length - k) ++ (ps.drop 0).take k = m0 := ⟨_, rfl⟩
      rw [hm0] at hob
      have hpm : m0.Perm ps := by
        rw [← hm0, List.drop_zero, List.take_of_length_le (by simp)]
        exact List.perm_append_comm.trans (by rw [List.take_append_drop])
      have hml : m0.length = ps.length := hpm.length_eq
      obtain ⟨A2, c2, rfl, hc2, _⟩ := hob.pairs
      rw [hml] at hc2 hob ⊢
      have HOB := Lib.hid hob
      have HQB := Lib.hid hqb
      have HPM := Lib.hid hpm
      clear hob hqb hpm hgb hm0 HOA HQA
      go_wp2_with fail
      go_loopw [8] (fun i wr => ∃ (q : Nat) (m : List PairD), q ≤ ps.length / 2 ∧ i = .int .i64 (q : Int) ∧ Hid (m.Perm ps) ∧ Hid (OwnU w1 wr (.slice A2 ps.length c2) m) ∧ Hid (Q w1 wr)) (fun i _ => ps.length / 2 - (intOf i).toNat)
      case atStart => exact ⟨0, m0, by omega, rfl, HPM, HOB, HQB⟩
      case round =>
        clear HPM HOB HQB
        obtain ⟨q, m, hq, rfl, HPM, HO, HQ⟩ := hrel
        have hml2 : m.length = ps.length := HPM.out.length_eq
        by_cases hlt : q < ps.length / 2
        · have g1 : (q : Int) < (ps.length : Int) / 2 := by omega
          obtain ⟨jj, hjj⟩ : ∃ jj, ps.length - 1 - q = jj := ⟨_, rfl⟩
          have hj1 : (ps.length : Int) - 1 - (q : Int) = (jj : Int) := by omega
          have hjl : jj < ps.length := by omega
          have hql : q < ps.length := by omega
          have hqj : q ≠ jj := by omega
          clear hjj
          obtain ⟨g2, rfl, e0, e1, hg2, hg2l⟩ := HO.out.el (show q < m.length by omega)
          obtain ⟨g3, hg3, e2, e3, _, _⟩ := HO.out.el (show jj < m.length by omega)
          cases hg3
          have HSW := Lib.hid (swap_perm m q jj (by omega) (by omega))
          obtain ⟨⟨x, y⟩, hxy⟩ : ∃ p, gU m q = p := ⟨_, rfl⟩
          obtain ⟨⟨x2, y2⟩, hxy2⟩ : ∃ p, gU m jj = p := ⟨_, rfl⟩
          rw [hxy, hxy2] at HSW
          rw [hxy] at e0 e1
          rw [hxy2] at e2 e3
          simp only at e0 e1 e2 e3
          obtain ⟨hb5, hq5⟩ := PB.make wr (x, y)
          have hbn : (wr.alloc (.cells (pairL ([], [])).toArray 25)).heap[wr.heap.size]? = some (.cells (pairL ([], [])).toArray 25 (0, 0)) := (MapKept.heap_alloc wr _).1
          obtain ⟨N5, hN5⟩ : ∃ G, wr.heap.size = G := ⟨_, rfl⟩
          rw [hN5] at hb5 hq5 hbn
          obtain ⟨W4, hW4⟩ : ∃ W, wr.alloc (.cells (pairL ([], [])).toArray 25) = W := ⟨_, rfl⟩
          rw [hW4] at hb5 hq5 hbn
          have hW4b : wr.alloc (.cells #[.string ⟨#[]⟩, .string ⟨#[]⟩] 25) = W4 := hW4
          clear hW4
          go_upto_region 14 with (refine wpList_store_row rfl 25 _ _ rfl N5 (pairL (x, y)).toArray (by rfl) (by rfl) 25 _ hbn infoP rfl (pairL_one _) ?_)
          obtain ⟨W5, hW5⟩ : ∃ W, W4.setRow N5 (pairL (x, y)).toArray = W := ⟨_, rfl⟩
          rw [hW5] at hb5 hq5 ⊢
          have HO5 := Lib.hid (HO.out.q hq5)
          have HQ5 := Lib.hid (HQ.out.trans hq5)
          have HB5 := Lib.hid hb5
          have f2 := hq5.cell e2
          have f3 := hq5.cell e3
          have hgN : g2 ≠ N5 := by omega
          obtain ⟨g4, hg4, hgs, hth, ho9, hg9⟩ := HO5.out.setU q hql (x2, y2)
          cases hg4
          have HO9 := Lib.hid ho9
          have hq9 : Q w1 (W5.setCells g2 (q * 2) (pairL (x2, y2))) := Below.grown HQ5.out hg9 HQ5.out.size (fun b hb => by cases hb; exact hg2)
          have HQ9 := Lib.hid hq9
          have HB9 : Hid (PB (W5.setCells g2 (q * 2) (pairL (x2, y2))) N5 (x, y)) := Lib.hid (by
            unfold PB; rw [hg9.block N5 (lt_of_heap HB5.out) (fun e => hgN (by first | exact Option.some.inj e | exact (Option.some.inj e).symm))]; exact HB5.out)
          simp only [Act.put, List.setIfInBounds_toArray, List.set_cons_succ, List.set_cons_zero]
          clear hbn hN5 hW4b hW5 hb5 hq5 e0 e1 e2 e3 HO HQ ho9 hg9 hq9 hgs
          iterate 34 go_step
          refine wpList_store_mid rfl 25 (.tmp 55) (.tmp 54) rfl g2 (q * 2) (pairL (x2, y2)).toArray (by rfl) (by rfl) hth infoP (pairL_one _) ?_
          clear hth
          go_upto_region 15 with (fail)
          obtain ⟨W6, hW6⟩ : ∃ W, W5.setCells g2 (q * 2) (pairL (x2, y2)) = W := ⟨_, rfl⟩
          rw [hW6] at HO9 HQ9 HB9
          have hW6b : W5.setCells g2 (q * 2) (pairL (x2, y2)).toArray.toList = W6 := hW6
          first | rw [hW6] | rw [hW6b]
          clear hW6 hW6b
          have c0 := HB9.out.c0
          have c1 := HB9.out.c1
          simp only at c0 c1
          obtain ⟨g5, hg5, hgs5, hth5, ho10, hg10⟩ := HO9.out.setU jj hjl (x, y)
          cases hg5
          have HO10 := Lib.hid ho10
          have HQ10 := Lib.hid (Below.grown HQ9.out hg10 HQ9.out.size (fun b hb => by cases hb; exact hg2) : Q w1 _)
          clear ho10 hg10 hgs5 HO9 HQ9 HB9 HO5 HQ5 HB5 f2 f3
          simp only [Act.put, List.setIfInBounds_toArray, List.set_cons_succ, List.set_cons_zero]
          iterate 25 go_step
          refine wpList_store_mid rfl 25 (.tmp 63) (.tmp 62) rfl g2 (jj * 2) (pairL (x, y)).toArray (by rfl) (by rfl) hth5 infoP (pairL_one _) ?_
          clear hth5 c0 c1
          go_wp2_with fail
          go_roundw
          case rel => exact ⟨q + 1, (m.set q (x2, y2)).set jj (x, y), by omega, by go_num, Lib.hid (HSW.out.trans HPM.out), HO10, HQ10⟩
          case measure => simp [intOf]; omega
        · have g1 : ¬ (q : Int) < (ps.length : Int) / 2 := by omega
          have HCM := Lib.hid (HO.out.cap hz)
          obtain ⟨g2, rfl, _, _, _, _⟩ := HO.out.el (show 0 < m.length by omega)
          obtain ⟨A3, c3, e3, _, hpr⟩ := HO.out.pairs
          injection e3 with e4 e6 e5
          clear e6
          subst e4
          subst e5
          rw [hml2] at hpr
          have HPR := Lib.hid hpr
          have HPSM : Hid (∀ p ∈ m, p.1.length ≤ 10000000 ∧ p.2.length ≤ 10000000) := Lib.hid (fun p hp => HPS.out p (HPM.out.mem_iff.1 hp))
          have HCE := Lib.hid (canonL_perm HPM.out)
          have HQ2 := Lib.hid (HQ1.out.trans HQ.out)
          obtain ⟨CL, hCL⟩ : ∃ CL, canonL ps = CL := ⟨_, rfl⟩
          rw [hCL] at HCE
          have HCL := Lib.hid hCL
          clear hpr HO hCL
          go_wp2_with fail
          refine (Canon_any _ ps.length _ m _ HPR.out (by assumption) HCM.out hn1 HPSM.out).mono ?_
          rintro e w8 ⟨rfl, hq8⟩
          rw [HCE.out]
          have HQ8 := Lib.hid (HQ2.out.trans hq8)
          clear hq8
          go_wp2_with fail
          refine (Canon_any _ ps.length cap ps _ (HP.out.q HQ8.out) hc HCAP.out hn1 HPS.out).mono ?_
          rintro e w9 ⟨rfl, hq9⟩
          rw [HCL.out]
          go_wp2_with fail
          all_goals
            go_ret
            refine ⟨?_, HQ8.out.trans hq9⟩
            show Ending.returned (.bool _) = .returned (.bool true)
            simp
    · rw [if_neg hneg] at hT
      subst hT
      clear ht0 ht1 hk
      go_enter Tryd.func3, Tryd.ntmps3
      go_wp2_with fail
      refine (examples13_any _ HU.out).mono ?_
      rintro e w1 ⟨rfl, hq1⟩
      have HQ1 := Lib.hid hq1
      clear hq1
      go_upto_region 8 with (fail)
      iterate 13 go_step
      refine wpList_append_us rfl (.tmp 24) (.tmp 27) rfl w1 w1 (.slice none 0 0) [] ((ps.drop k).take (ps.length - k)) rfl (OwnU.nil _ _) ⟨g, off + k * 2, none⟩ (ps.length - k) (cap - k) (by simp) rfl (pairs_cells (HP.out.q HQ1.out) k (ps.length - k) (by omega)) (Nat.le_refl _) (by simp only [List.length_nil]; omega) ?_
      intro va wa hoa hga
      rw [List.nil_append] at hoa
      have hqa : Q w1 wa := gb_q_own hga (Q.refl _) (fun b hb => by cases hb)
      have HOA := Lib.hid hoa
      have HQA := Lib.hid hqa
      clear hoa hqa hga
      go_upto_region 9 with (fail)
      iterate 13 go_step
      refine wpList_append_us rfl (.tmp 29) (.tmp 32) rfl w1 wa va _ ((ps.drop 0).take k) rfl HOA.out ⟨g, off + 0 * 2, none⟩ k cap (by simp; omega) rfl (pairs_cells (HP.out.q (HQ1.out.trans HQA.out)) 0 k (by omega)) HQA.out.size (by simp only [List.length_take, List.length_drop]; omega) ?_
      intro vb wb hob hgb
      have hqb : Q w1 wb := gb_q_own hgb HQA.out (fun b hb => (HOA.out.block hb).1)
      obtain ⟨m0, hm0⟩ : ∃ m0, (ps.drop k).take (ps.length - k) ++ (ps.drop 0).take k = m0 := ⟨_, rfl⟩
      rw [hm0] at hob
      have hpm : m0.Perm ps := by
        rw [← hm0, List.drop_zero, List.take_of_length_le (by simp)]
        exact List.perm_append_comm.trans (by rw [List.take_append_drop])
      have hml : m0.length = ps.length := hpm.length_eq
      obtain ⟨A2, c2, rfl, hc2, _⟩ := hob.pairs
      rw [hml] at hc2 hob ⊢
      have HOB := Lib.hid hob
      have HQB := Lib.hid hqb
      have HPM := Lib.hid hpm
      clear hob hqb hpm hgb hm0 HOA HQA
      go_wp2_with fail
      go_loopw [8] (fun i wr => ∃ (q : Nat) (m : List PairD), q ≤ ps.length / 2 ∧ i = .int .i64 (q : Int) ∧ Hid (m.Perm ps) ∧ Hid (OwnU w1 wr (.slice A2 ps.length c2) m) ∧ Hid (Q w1 wr)) (fun i _ => ps.length / 2 - (intOf i).toNat)
      case atStart => exact ⟨0, m0, by omega, rfl, HPM, HOB, HQB⟩
      case round =>
        clear HPM HOB HQB
        obtain ⟨q, m, hq, rfl, HPM, HO, HQ⟩ := hrel
        have hml2 : m.length = ps.length := HPM.out.length_eq
        by_cases hlt : q < ps.length / 2
        · have g1 : (q : Int) < (ps.length : Int) / 2 := by omega
          obtain ⟨jj, hjj⟩ : ∃ jj, ps.length - 1 - q = jj := ⟨_, rfl⟩
          have hj1 : (ps.length : Int) - 1 - (q : Int) = (jj : Int) := by omega
          have hjl : jj < ps.length := by omega
          have hql : q < ps.length := by omega
          have hqj : q ≠ jj := by omega
          clear hjj
          obtain ⟨g2, rfl, e0, e1, hg2, hg2l⟩ := HO.out.el (show q < m.length by omega)
          obtain ⟨g3, hg3, e2, e3, _, _⟩ := HO.out.el (show jj < m.length by omega)
          cases hg3
          have HSW := Lib.hid (swap_perm m q jj (by omega) (by omega))
          obtain ⟨⟨x, y⟩, hxy⟩ : ∃ p, gU m q = p := ⟨_, rfl⟩
          obtain ⟨⟨x2, y2⟩, hxy2⟩ : ∃ p, gU m jj = p := ⟨_, rfl⟩
          rw [hxy, hxy2] at HSW
          rw [hxy] at e0 e1
          rw [hxy2] at e2 e3
          simp only at e0 e1 e2 e3
          obtain ⟨hb5, hq5⟩ := PB.make wr (x, y)
          have hbn : (wr.alloc (.cells (pairL ([], [])).toArray 25)).heap[wr.heap.size]? = some (.cells (pairL ([], [])).toArray 25 (0, 0)) := (MapKept.heap_alloc wr _).1
          obtain ⟨N5, hN5⟩ : ∃ G, wr.heap.size = G := ⟨_, rfl⟩
          rw [hN5] at hb5 hq5 hbn
          obtain ⟨W4, hW4⟩ : ∃ W, wr.alloc (.cells (pairL ([], [])).toArray 25) = W := ⟨_, rfl⟩
          rw [hW4] at hb5 hq5 hbn
          have hW4b : wr.alloc (.cells #[.string ⟨#[]⟩, .string ⟨#[]⟩] 25) = W4 := hW4
          clear hW4
          go_upto_region 14 with (refine wpList_store_row rfl 25 _ _ rfl N5 (pairL (x, y)).toArray (by rfl) (by rfl) 25 _ hbn infoP rfl (pairL_one _) ?_)
          obtain ⟨W5, hW5⟩ : ∃ W, W4.setRow N5 (pairL (x, y)).toArray = W := ⟨_, rfl⟩
          rw [hW5] at hb5 hq5 ⊢
          have HO5 := Lib.hid (HO.out.q hq5)
          have HQ5 := Lib.hid (HQ.out.trans hq5)
          have HB5 := Lib.hid hb5
          have f2 := hq5.cell e2
          have f3 := hq5.cell e3
          have hgN : g2 ≠ N5 := by omega
          obtain ⟨g4, hg4, hgs, hth, ho9, hg9⟩ := HO5.out.setU q hql (x2, y2)
          cases hg4
          have HO9 := Lib.hid ho9
          have hq9 : Q w1 (W5.setCells g2 (q * 2) (pairL (x2, y2))) := Below.grown HQ5.out hg9 HQ5.out.size (fun b hb => by cases hb; exact hg2)
          have HQ9 := Lib.hid hq9
          have HB9 : Hid (PB (W5.setCells g2 (q * 2) (pairL (x2, y2))) N5 (x, y)) := Lib.hid (by
            unfold PB; rw [hg9.block N5 (lt_of_heap HB5.out) (fun e => hgN (by first | exact Option.some.inj e | exact (Option.some.inj e).symm))]; exact HB5.out)
          simp only [Act.put, List.setIfInBounds_toArray, List.set_cons_succ, List.set_cons_zero]
          clear hbn hN5 hW4b hW5 hb5 hq5 e0 e1 e2 e3 HO HQ ho9 hg9 hq9 hgs
          iterate 34 go_step
          refine wpList_store_mid rfl 25 (.tmp 55) (.tmp 54) rfl g2 (q * 2) (pairL (x2, y2)).toArray (by rfl) (by rfl) hth infoP (pairL_one _) ?_
          clear hth
          go_upto_region 15 with (fail)
          obtain ⟨W6, hW6⟩ : ∃ W, W5.setCells g2 (q * 2) (pairL (x2, y2)) = W := ⟨_, rfl⟩
          rw [hW6] at HO9 HQ9 HB9
          have hW6b : W5.setCells g2 (q * 2) (pairL (x2, y2)).toArray.toList = W6 := hW6
          first | rw [hW6] | rw [hW6b]
          clear hW6 hW6b
          have c0 := HB9.out.c0
          have c1 := HB9.out.c1
          simp only at c0 c1
          obtain ⟨g5, hg5, hgs5, hth5, ho10, hg10⟩ := HO9.out.setU jj hjl (x, y)
          cases hg5
          have HO10 := Lib.hid ho10
          have HQ10 := Lib.hid (Below.grown HQ9.out hg10 HQ9.out.size (fun b hb => by cases hb; exact hg2) : Q w1 _)
          clear ho10 hg10 hgs5 HO9 HQ9 HB9 HO5 HQ5 HB5 f2 f3
          simp only [Act.put, List.setIfInBounds_toArray, List.set_cons_succ, List.set_cons_zero]
          iterate 25 go_step
          refine wpList_store_mid rfl 25 (.tmp 63) (.tmp 62) rfl g2 (jj * 2) (pairL (x, y)).toArray (by rfl) (by rfl) hth5 infoP (pairL_one _) ?_
          clear hth5 c0 c1
          go_wp2_with fail
          go_roundw
          case rel => exact ⟨q + 1, (m.set q (x2, y2)).set jj (x, y), by omega, by go_num, Lib.hid (HSW.out.trans HPM.out), HO10, HQ10⟩
          case measure => simp [intOf]; omega
        · have g1 : ¬ (q : Int) < (ps.length : Int) / 2 := by omega
          have HCM := Lib.hid (HO.out.cap hz)
          obtain ⟨g2, rfl, _, _, _, _⟩ := HO.out.el (show 0 < m.length by omega)
          obtain ⟨A3, c3, e3, _, hpr⟩ := HO.out.pairs
          injection e3 with e4 e6 e5
          clear e6
          subst e4
          subst e5
          rw [hml2] at hpr
          have HPR := Lib.hid hpr
          have HPSM : Hid (∀ p ∈ m, p.1.length ≤ 10000000 ∧ p.2.length ≤ 10000000) := Lib.hid (fun p hp => HPS.out p (HPM.out.mem_iff.1 hp))
          have HCE := Lib.hid (canonL_perm HPM.out)
          have HQ2 := Lib.hid (HQ1.out.trans HQ.out)
          obtain ⟨CL, hCL⟩ : ∃ CL, canonL ps = CL := ⟨_, rfl⟩
          rw [hCL] at HCE
          have HCL := Lib.hid hCL
          clear hpr HO hCL
          go_wp2_with fail
          refine (Canon_any _ ps.length _ m _ HPR.out (by assumption) HCM.out hn1 HPSM.out).mono ?_
          rintro e w8 ⟨rfl, hq8⟩
          rw [HCE.out]
          have HQ8 := Lib.hid (HQ2.out.trans hq8)
          clear hq8
          go_wp2_with fail
          refine (Canon_any _ ps.length cap ps _ (HP.out.q HQ8.out) hc HCAP.out hn1 HPS.out).mono ?_
          rintro e w9 ⟨rfl, hq9⟩
          rw [HCL.out]
          go_wp2_with fail
          all_goals
            go_ret
            refine ⟨?_, HQ8.out.trans hq9⟩
            show Ending.returned (.bool _) = .returned (.bool true)
            simp
end Go.Proofs.YtlalpnnnnmcejaaDoor
/- A slice of pairs that came in, opened; what the bulk bounds. -/
set_option linter.unusedVariables false
namespace Go.Proofs.YtlalpnnnnmcejaaDoor
open Go Go.RowKit Go.ChangeShapes Go.WideShapes Go.Deep
theorem list2 {α : Type} {l : List α} (h : l.length = 2) : ∃ a b, l = [a, b] := by
  match l, h with
  | [a, b], _ => exact ⟨a, b, rfl⟩
theorem str_back (s : ByteArray) : Value.string s = .string ⟨s.data.toList.toArray⟩ := by cases s; rfl
theorem trod_struct2 {H : Type} {enc : TypeId × Value → H} {P : Program} {w : World} {base : Nat} {spare : Nat → Bool} {held : Bool} {t : TypeId} {f0 f1 : Field} {fuel : Nat} {cs : List Value} {x : DataW H × List MemPlace} (ht : P.underlying t = some (.struct #[f0, f1])) (h : DataW.trod enc P w base spare held fuel t cs = some x) :
    ∃ y0 y1 n, x.1 = .agg [y0.1, y1.1] ∧ cs.length = P.cellsOf t ∧ DataW.trod enc P w base spare held n f0.type ((cs.drop f0.offset).take (P.cellsOf f0.type)) = some y0 ∧
      DataW.trod enc P w base spare held n f1.type ((cs.drop f1.offset).take (P.cellsOf f1.type)) = some y1 := by
  obtain ⟨xs, n, _, rfl, hl, hlen, hf⟩ := DataW.trod_struct ht h
  obtain ⟨y0, y1, rfl⟩ := list2 (hlen.trans rfl)
  exact ⟨y0, y1, n, by simp, hl, by simpa using hf 0 f0 rfl, by simpa using hf 1 f1 rfl⟩
section
variable {H : Type} {enc : TypeId × Value → H} {W : World} {sp : Nat → Bool} {hd : Bool}
def pairDat (p : PairD) : DataW H := .agg [.lit (.string p.1), .lit (.string p.2)]
theorem str_of {fuel : Nat} {c : Value} {y : DataW H × List MemPlace} (h : DataW.trod enc Tryd.prog W 0 sp hd fuel 9 [c] = some y) : ∃ s : List UInt8, c = .string ⟨s.toArray⟩ ∧ y.1 = .lit (.string s) := by
  obtain ⟨s, e, e2, _⟩ := DataW.trod_string Tryd.underlying9 h
  have e' : c = .string s := by simpa using e
  exact ⟨s.data.toList, e'.trans (str_back s), by rw [e2]⟩
theorem pair_of {fuel : Nat} {cs : List Value} {y : DataW H × List MemPlace} (h : DataW.trod enc Tryd.prog W 0 sp hd fuel 25 cs = some y) : ∃ p : PairD, cs = pairL p ∧ y.1 = pairDat p := by
  obtain ⟨y0, y1, n, hx, hl, g0, g1⟩ := trod_struct2 Tryd.underlying25 h
  have hc : Tryd.prog.cellsOf 25 = 2 := by kernel_rfl
  have hs : Tryd.prog.cellsOf 9 = 1 := by kernel_rfl
  rw [hc] at hl
  obtain ⟨c0, c1, rfl⟩ := list2 hl
  simp only [hs, List.drop_zero, List.drop_succ_cons, List.take_succ_cons, List.take_zero] at g0 g1
  obtain ⟨s0, rfl, x0⟩ := str_of g0
  obtain ⟨s1, rfl, x1⟩ := str_of g1
  exact ⟨(s0, s1), rfl, by rw [hx, x0, x1]; rfl⟩
theorem bulk_all {d : DataW H} {l : List (DataW H)} (h : d ∈ l) : Rows.uptoBulk d ≤ Rows.uptoBulkAll l := by
  induction l with
  | nil => cases h
  | cons a r ih =>
    simp only [Rows.uptoBulkAll]
    rcases List.mem_cons.1 h with h | h
    · subst h; omega
    · have := ih h; omega
theorem bulk_pos (d : DataW H) : 1 ≤ Rows.uptoBulk d := by
  cases d with
  | lit l => cases l <;> simp [Rows.uptoBulk]
  | _ => simp [Rows.uptoBulk]
theorem bulk_len (l : List (DataW H)) : l.length ≤ Rows.uptoBulkAll l := by
  induction l with
  | nil => simp
  | cons a r ih => have := bulk_pos a; simp only [Rows.uptoBulkAll, List.length_cons]; omega
theorem pair_bulk (p : PairD) : Rows.uptoBulk (pairDat (H := H) p) = p.1.length + 1 + (p.2.length + 1) + 1 := by
  simp [pairDat, Rows.uptoBulk, Rows.uptoBulkAll]
/-- A slice of pairs that came in. -/
theorem pairs_of {fuel : Nat} {A : Option Addr} {len cap : Nat} {y : DataW H × List MemPlace} (h : DataW.trod enc Tryd.prog W 0 (fun _ => true) hd fuel 22 [.slice A len cap] = some y) (hB : Rows.uptoBulk y.1 ≤ 1048576) (hz : ∀ x ∈ y.1.weights Tryd.prog 22, x ≤ reachBytes) :
    ∃ ps, PairsAt W A len ps ∧ (∀ p ∈ ps, p.1.length ≤ 1048576 ∧ p.2.length ≤ 1048576) ∧ len ≤ 1048576 ∧ len ≤ cap ∧ cap ≤ 5000000000000 := by
  have hc : Tryd.prog.cellsOf 25 = 2 := by kernel_rfl
  have hb : Tryd.prog.bytesOf 25 = 32 := by kernel_rfl
  rcases open_slice Tryd.underlying22 h with ⟨hcs, hx⟩ | ⟨a, len', cap', m, n, D, Pl, hcs, _, hl, hm, hmm, rfl, hcell⟩
  · simp at hcs
    obtain ⟨rfl, rfl, rfl⟩ := hcs
    exact ⟨[], ⟨rfl, fun h => absurd h (by omega)⟩, (fun p hp => by cases hp), by omega, by omega, by omega⟩
  · simp at hcs
    obtain ⟨rfl, rfl, rfl⟩ := hcs
    simp only [if_true] at hmm
    subst hmm
    rw [hc] at hcell
    obtain ⟨p, hp⟩ := choose_lt (α := PairD) (p := fun i q => (∀ k v, (pairL q)[k]? = some v → W.cell? ((a.add (i * 2)).add k) = some v) ∧ D i = pairDat q) (fun i hi => by
      obtain ⟨cs', h1, h2⟩ := hcell i hi
      obtain ⟨_, hlen, hcc⟩ := World.cells?_some h1
      obtain ⟨q, rfl, hq⟩ := pair_of h2
      refine ⟨q, fun k v hk => ?_, hq⟩
      have hk2 : k < 2 := by
        have := (List.getElem?_eq_some_iff.1 hk).1
        simpa [pairL] using this
      rw [hcc k hk2, hk])
    have hw : ∀ x ∈ ((m * 32) :: (DataW.weightsAll Tryd.prog 25 ((List.range len).map D))), x ≤ reachBytes := by
      intro x hx
      refine hz x ?_
      rw [DataW.weights, Tryd.underlying22]
      simp only [List.length_map, List.length_range, hb, List.mem_cons, List.mem_append] at hx ⊢
      rcases hx with hx | hx
      · left; rw [hx, Nat.add_sub_cancel' hl]
      · right; left; exact hx
    have hcap := hw (m * 32) (by simp)
    unfold reachBytes at hcap
    refine ⟨(List.range len).map p, ⟨by simp, fun h0 => ?_⟩, fun q hq => ?_, by have h9 := bulk_len (H := H) ((List.range len).map D); simp only [Rows.uptoBulk, List.length_map, List.length_range] at h9 hB; omega, hl, by omega⟩
    · have h00 := (hp 0 (by omega)).1 0 _ rfl
      rw [Nat.zero_mul, add_add] at h00
      obtain ⟨g, off, spot⟩ := a
      have hsp : spot = none ∧ g < W.heap.size := by
        unfold Addr.add World.cell? at h00
        simp only [Nat.add_zero, if_true] at h00
        split at h00
        · rename_i c t f hg
          refine ⟨?_, (Array.getElem?_eq_some_iff.1 hg).1⟩
          cases spot with
          | none => rfl
          | some s => simp at h00
        · cases h00
      obtain ⟨rfl, hg⟩ := hsp
      refine ⟨g, off, rfl, hg, fun j hj i v hv => ?_⟩
      have hj' : j < len := by simpa using hj
      have := (hp j (by omega)).1 i v (by simpa using hv)
      rw [add_add] at this
      unfold Addr.add at this
      by_cases h0 : j * 2 + i = 0
      · rw [if_pos h0] at this
        rw [show off + j * 2 + i = off by omega]; exact this
      · rw [if_neg h0] at this
        rw [show off + j * 2 + i = off + (j * 2 + i) by omega]; exact this
    · obtain ⟨i, hi, rfl⟩ := List.mem_map.1 hq
      have hi' : i < len := by simpa using hi
      have h1 := bulk_all (H := H) (List.mem_map.2 ⟨i, hi, rfl⟩ : D i ∈ (List.range len).map D)
      rw [(hp i (by omega)).2, pair_bulk] at h1
      have h2 : Rows.uptoBulkAll ((List.range len).map D) ≤ 1048576 := by
        simp only [Rows.uptoBulk] at hB; omega
      omega
set_option maxRecDepth 100000 in
theorem pairs_open {b0 : Nat} {v : Value} {d : DataW H} {q : List MemPlace} (hv : Value.okWide Tryd.prog W .any b0 22 v) (h : DataW.Trod enc Tryd.prog W 0 (fun _ => true) hd 22 v d q) (hB : Rows.uptoBulk d ≤ 1048576) (hz : ∀ x ∈ d.weights Tryd.prog 22, x ≤ reachBytes) :
    ∃ A n cap ps, v = .slice A n cap ∧ PairsAt W A n ps ∧ (∀ p ∈ ps, p.1.length ≤ 1048576 ∧ p.2.length ≤ 1048576) ∧ n ≤ 1048576 ∧ n ≤ cap ∧ cap ≤ 5000000000000 := by
  obtain ⟨A, len, cap, rfl⟩ := okWide_slice Tryd.underlying22 hv
  obtain ⟨fuel, hf⟩ := h
  obtain ⟨ps, h1, h2, h3, h4, h5⟩ := pairs_of hf hB hz
  exact ⟨A, len, cap, ps, rfl, h1, h2, h3, h4, h5⟩
end
end Go.Proofs.YtlalpnnnnmcejaaDoor
