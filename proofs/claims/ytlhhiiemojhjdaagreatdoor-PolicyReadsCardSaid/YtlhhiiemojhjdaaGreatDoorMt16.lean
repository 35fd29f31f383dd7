/- Texts of this proof, laid into one: LaQ, LaR, LbJ, PoA, PoB. -/
import Derived.Test.YtlhhiiemojhjdaaGreatDoorMt15
set_option linter.unusedVariables false
set_option linter.unusedSimpArgs false
namespace Go.Proofs.YtlhhiiemojhjdaaGreatDoor
open Go Go.RowKit
def okK (k : Int) (t : Txt) (ns : List Txt) (ks : List JsonD) : Bool :=
  if k = 1 ∨ k = 2 ∨ k = 3 then t.isEmpty && ns.isEmpty && ks.isEmpty
  else if k = 4 then ns.isEmpty && ks.isEmpty
  else if k = 5 then Lib.validD t && ns.isEmpty && ks.isEmpty
  else if k = 6 then t.isEmpty && ns.isEmpty
  else if k = 7 then t.isEmpty && decide (ns.length = ks.length)
  else false
theorem wf_okK (k : Int) (t : Txt) (ns : List Txt) (ks : List JsonD) (d : Nat) (h : ¬ ((k = 6 ∨ k = 7) ∧ d = 0)) : wfJ (.mk k t ns ks) d = (okK k t ns ks && ns.all Lib.validD && wfKs ks (d - 1)) := by
  rw [wfJ, okK]
  by_cases h1 : k = 1 ∨ k = 2 ∨ k = 3
  · rw [if_pos h1, if_pos h1]
    cases ns <;> cases ks <;> simp [wfKs]
  · rw [if_neg h1, if_neg h1]
    by_cases h4 : k = 4
    · rw [if_pos h4, if_pos h4]
      cases ns <;> cases ks <;> simp [wfKs]
    · rw [if_neg h4, if_neg h4]
      by_cases h5 : k = 5
      · rw [if_pos h5, if_pos h5]
        cases ns <;> cases ks <;> simp [wfKs]
      · rw [if_neg h5, if_neg h5]
        by_cases h6 : k = 6
        · have hd : decide (0 < d) = true := by simp; omega
          rw [if_pos h6, if_pos h6, hd]
          cases ns <;> simp
        · rw [if_neg h6, if_neg h6]
          by_cases h7 : k = 7
          · have hd : decide (0 < d) = true := by simp; omega
            rw [if_pos h7, if_pos h7, hd]
            simp [Bool.and_assoc]
          · rw [if_neg h7, if_neg h7]; simp
theorem wf_deep (k : Int) (t : Txt) (ns : List Txt) (ks : List JsonD) (h : k = 6 ∨ k = 7) : wfJ (.mk k t ns ks) 0 = false := by
  rcases h with rfl | rfl <;> simp [wfJ]
def RrP (j : JsonD) (d : Nat) (L : Int) (w : World) (e : Ending) (w' : World) : Prop := Q w w' ∧ ∃ L' : Int, e = .returned (.tuple #[.bool (rtB j d L), .int .i64 L']) ∧ -1 ≤ L' ∧ L' ≤ 8000 ∧ (rtB j d L = true → L' = L - cntJ j)
def RrKids (ks : List JsonD) (d : Nat) (D : Int) : Prop := ∀ i, i < ks.length → ∀ W un uk L, JV W (gK ks i) un uk → 0 ≤ L → L ≤ 8000 → Calls Tryz.prog 41 #[.agg (cellJ (gK ks i) un uk).toArray, .int .i64 (D + 1), .int .i64 L] W (RrP (gK ks i) (d - 1) L W)
def KiS (k : Int) (t : Txt) (ns : List Txt) (ks : List JsonD) (d : Nat) (L : Int) (R2 : Bool) (q : Nat) (o : Bool) (L' : Int) : Prop :=
  (o = true ∧ R2 = true ∧ wfKs (ks.take q) (d - 1) = true ∧ L' = L - 1 - (cntKs (ks.take q) : Int) ∧ 0 ≤ L') ∨ (o = false ∧ rtB (.mk k t ns ks) d L = false)
theorem kis_start {k : Int} {t : Txt} {ns : List Txt} {ks : List JsonD} {d : Nat} {L : Int} {R2 : Bool} (hn : ¬ ((k = 6 ∨ k = 7) ∧ d = 0)) (h2 : R2 = (okK k t ns ks && ns.all Lib.validD)) (hL : 1 ≤ L) : KiS k t ns ks d L R2 0 R2 (L - 1) := by
  cases hr : R2 with
  | true => exact .inl ⟨rfl, rfl, by rw [List.take_zero, wfKs], by rw [List.take_zero, cntKs]; simp, by omega⟩
  | false =>
    refine .inr ⟨rfl, ?_⟩
    unfold rtB
    rw [wf_okK k t ns ks d hn, ← h2, hr]; simp
theorem kis_end {k : Int} {t : Txt} {ns : List Txt} {ks : List JsonD} {d : Nat} {L L' : Int} {R2 : Bool} {q : Nat} {o : Bool} (hn : ¬ ((k = 6 ∨ k = 7) ∧ d = 0)) (h2 : R2 = (okK k t ns ks && ns.all Lib.validD)) (h : KiS k t ns ks d L R2 q o L') (hq : o = true → q = ks.length) :
    o = rtB (.mk k t ns ks) d L ∧ (o = true → L' = L - cntJ (.mk k t ns ks)) := by
  rcases h with ⟨rfl, hr, hw, hl, h0⟩ | ⟨rfl, hr⟩
  · have e := hq rfl
    subst e
    rw [List.take_length] at hw hl
    have hc : (cntJ (.mk k t ns ks) : Int) = (cntKs ks : Int) + 1 := by rw [cntJ]; simp
    refine ⟨?_, fun _ => by omega⟩
    unfold rtB
    rw [wf_okK k t ns ks d hn, ← h2, hr, hw]
    have : decide ((cntJ (.mk k t ns ks) : Int) ≤ L) = true := by simp; omega
    rw [this]; rfl
  · exact ⟨hr.symm, fun h => by cases h⟩
theorem kis_next {k : Int} {t : Txt} {ns : List Txt} {ks : List JsonD} {d : Nat} {L L' L2 : Int} {R2 : Bool} {q : Nat} (hn : ¬ ((k = 6 ∨ k = 7) ∧ d = 0)) (h2 : R2 = (okK k t ns ks && ns.all Lib.validD)) (h : KiS k t ns ks d L R2 q true L') (hq : q < ks.length) (hl2 : rtB (gK ks q) (d - 1) L' = true → L2 = L' - cntJ (gK ks q)) :
    KiS k t ns ks d L R2 (q + 1) (rtB (gK ks q) (d - 1) L') L2 := by
  rcases h with ⟨_, hr, hw, hl, h0⟩ | ⟨h, _⟩
  · have e : cntKs (ks.take (q + 1)) = cntKs (ks.take q) + cntJ (gK ks q) := by rw [gK_take ks q hq, cntKs_app, cntKs, cntKs]; rfl
    cases hb : rtB (gK ks q) (d - 1) L' with
    | true =>
      have hb' := hb
      unfold rtB at hb'
      rw [Bool.and_eq_true, decide_eq_true_eq] at hb'
      refine .inl ⟨rfl, hr, ?_, ?_, ?_⟩
      · rw [gK_take ks q hq, wfKs_app, hw, wfKs, wfKs, hb'.1]; rfl
      · rw [e, hl2 hb]; omega
      · rw [hl2 hb]; omega
    | false =>
      refine .inr ⟨rfl, ?_⟩
      unfold rtB at hb ⊢
      rw [wf_okK k t ns ks d hn]
      have hs := gK_split ks q hq
      have e1 : wfKs ks (d - 1) = (wfKs (ks.take q) (d - 1) && (wfJ (gK ks q) (d - 1) && wfKs (ks.drop (q + 1)) (d - 1))) := by
        conv => lhs; rw [hs]
        rw [wfKs_app, wfKs]
      have e2 : cntKs ks = cntKs (ks.take q) + (cntJ (gK ks q) + cntKs (ks.drop (q + 1))) := by
        conv => lhs; rw [hs]
        rw [cntKs_app, cntKs]
      rw [cntJ]
      simp only [Bool.and_eq_false_iff, decide_eq_false_iff_not] at hb ⊢
      rcases hb with h1 | h1
      · left; right; rw [e1, h1]; simp
      · right; omega
  · cases h
set_option maxRecDepth 100000 in
set_option maxHeartbeats 8000000 in
theorem rright_step (k : Int) (t : Txt) (ns : List Txt) (ks : List JsonD) (d : Nat) (D L : Int) (hD : 20 - (d : Int) = D) (hd : d ≤ 20) (hL0 : 0 ≤ L) (hL : L ≤ 8000) (w : World) (vn vk : Value) (hj : JV w (.mk k t ns ks) vn vk) (hb : bigJ 9223372036854775807 (.mk k t ns ks))
    (IH : (okK k t ns ks = true → ¬ ((k = 6 ∨ k = 7) ∧ d = 0) → RrKids ks d D)) :
    Calls Tryz.prog 41 #[.agg (jsonC k t vn vk).toArray, .int .i64 D, .int .i64 L] w (RrP (.mk k t ns ks) d L w) := by
  obtain ⟨⟨A, c, rfl, hc1, hc2⟩, ⟨B, c', rfl, hc3, hc4⟩⟩ := jv_form hj
  have HJ := Lib.hid hj
  have HIH := Lib.hid IH
  have HB := Lib.hid hb
  have HD := Lib.hid hD
  have hD2 : (0 : Int) ≤ D := by omega
  have hD3 : D ≤ 20 := by omega
  have hrow := heap_alloc_new w (.cells (jsonC k t (.slice A ns.length c) (.slice B ks.length c')).toArray 46)
  obtain ⟨W1, hW1⟩ : ∃ W1, w.alloc (.cells (jsonC k t (.slice A ns.length c) (.slice B ks.length c')).toArray 46) = W1 := ⟨_, rfl⟩
  have hq1 : Q w W1 := by rw [← hW1]; exact (Q.refl w).alloc _
  obtain ⟨jb, hjb⟩ : ∃ jb, w.heap.size = jb := ⟨_, rfl⟩
  rw [hW1, hjb] at hrow
  clear hj IH hb hD
  go_enter Tryz.func41, Tryz.ntmps41
  go_upto_region 1 with (fail)
  have c0 : W1.cell? ⟨jb, 0, none⟩ = some (.int .i64 k) := by rw [cell_of_row _ _ _ _ _ _ hrow]; rfl
  have c1 : W1.cell? ⟨jb, 1, none⟩ = some (.string ⟨t.toArray⟩) := by rw [cell_of_row _ _ _ _ _ _ hrow]; rfl
  have c2 : W1.cell? ⟨jb, 2, none⟩ = some (.slice A ns.length c) := by rw [cell_of_row _ _ _ _ _ _ hrow]; rfl
  have c3 : W1.cell? ⟨jb, 3, none⟩ = some (.slice B ks.length c') := by rw [cell_of_row _ _ _ _ _ _ hrow]; rfl
  have HRow := Lib.hid hrow
  have HQ1 := Lib.hid hq1
  clear hW1 hjb hrow hq1
  have HDeep : Hid (k = 6 ∨ k = 7 → d = 0 → RrP (.mk k t ns ks) d L w (.returned (.tuple #[.bool false, .int .i64 (L - 1)])) W1) := Lib.hid (fun h h0 => by
    subst h0
    have e : rtB (.mk k t ns ks) 0 L = false := by unfold rtB; rw [wf_deep k t ns ks h]; rfl
    exact ⟨HQ1.out, L - 1, by rw [e], by omega, by omega, fun h => by rw [e] at h; cases h⟩)
  have HZero : Hid (L = 0 → RrP (.mk k t ns ks) d L w (.returned (.tuple #[.bool false, .int .i64 (L - 1)])) W1) := Lib.hid (fun h0 => by
    subst h0
    have e : rtB (.mk k t ns ks) d 0 = false := by
      unfold rtB
      have := cnt_pos (.mk k t ns ks)
      have : decide ((cntJ (.mk k t ns ks) : Int) ≤ 0) = false := by simp; omega
      rw [this, Bool.and_false]
    exact ⟨HQ1.out, 0 - 1, by rw [e], by omega, by omega, fun h => by rw [e] at h; cases h⟩)
  have HK : Hid (k = 6 ∨ k = 7 ∨ (k ≠ 6 ∧ k ≠ 7)) := Lib.hid (by omega)
  by_cases h0 : L = 0
  · have g0 : decide (L - 1 < 0) = true := by simp; omega
    have HX := Lib.hid (HZero.out h0)
    clear h0
    rcases HK.out with hk | hk | hk
    case inr.inr =>
      have n6 : (k == 6) = false := by simpa using hk.1
      have n7 : (k == 7) = false := by simpa using hk.2
      clear hk
      go_wp2_with fail
      go_ret2
      exact HX.out
    all_goals
      subst hk
      by_cases hd0 : d = 0
      · have gD : decide ((20 : Int) ≤ D) = true := by have := HD.out; simp; omega
        clear hd0
        go_wp2_with fail
        go_ret2
        exact HX.out
      · have gD : decide ((20 : Int) ≤ D) = false := by have := HD.out; simp; omega
        clear hd0
        go_wp2_with fail
        go_ret2
        exact HX.out
  · have g0 : decide (L - 1 < 0) = false := by simp; omega
    by_cases hdp : (k = 6 ∨ k = 7) ∧ d = 0
    · have HX := Lib.hid (HDeep.out hdp.1 hdp.2)
      have gD : decide ((20 : Int) ≤ D) = true := by have := HD.out; have := hdp.2; simp; omega
      obtain ⟨hk, -⟩ := hdp
      rcases hk with hk | hk
      all_goals
        subst hk
        go_wp2_with fail
        go_ret2
        exact HX.out
    · have HN := Lib.hid hdp
      rcases HK.out with hk | hk | hk
      case' inl =>
        have n6 : (k == 6) = true := by simpa using hk
        have gD : decide ((20 : Int) ≤ D) = false := by have := HD.out; simp; omega
      case' inr.inl =>
        have n6 : (k == 6) = false := by subst hk; rfl
        have n7 : (k == 7) = true := by simpa using hk
        have gD : decide ((20 : Int) ≤ D) = false := by have := HD.out; simp; omega
      case' inr.inr =>
        have n6 : (k == 6) = false := by simpa using hk.1
        have n7 : (k == 7) = false := by simpa using hk.2
      all_goals
        clear hdp hk
        go_upto_region 5 with (fail)
        iterate 10 go_step
        go_cut [8] (fun ok wx => ok = .bool (okK k t ns ks) ∧ Hid (Q W1 wx))
        case first =>
          obtain ⟨bt, hbt⟩ : ∃ bt, List.isEmpty t = bt := ⟨_, rfl⟩
          obtain ⟨bn, hbn⟩ : ∃ bn, ((ns.length : Int) == 0) = bn := ⟨_, rfl⟩
          obtain ⟨bk, hbk⟩ : ∃ bk, ((ks.length : Int) == 0) = bk := ⟨_, rfl⟩
          obtain ⟨bl, hbl⟩ : ∃ bl, ((ns.length : Int) == (ks.length : Int)) = bl := ⟨_, rfl⟩
          have HN0 : Hid (ns.isEmpty = bn) := Lib.hid (by rw [← hbn]; cases ns <;> simp <;> omega)
          have HK0 : Hid (ks.isEmpty = bk) := Lib.hid (by rw [← hbk]; cases ks <;> simp <;> omega)
          have HL0 : Hid (decide (ns.length = ks.length) = bl) := Lib.hid (by
            rw [← hbl]
            by_cases h : ns.length = ks.length
            · rw [h]; simp
            · have : ¬ ((ns.length : Int) = (ks.length : Int)) := by omega
              simp [h, this])
          have hnl : ns.length ≤ 9223372036854775807 := by omega
          have hkl : ks.length ≤ 9223372036854775807 := by omega
          by_cases e1 : k = 1 ∨ k = 2 ∨ k = 3
          · have HO : Hid (okK k t ns ks = (bt && bn && bk)) := Lib.hid (by unfold okK; rw [if_pos e1, hbt, HN0.out, HK0.out])
            clear hbl HL0
            rcases e1 with e | e | e
            all_goals
              subst e
              try exact absurd n6 (by decide)
              try exact absurd n7 (by decide)
              all_goals cases bt <;> cases bn <;> cases bk
              all_goals
                go_wp2_with fail
                go_meet
                exact ⟨by rw [HO.out]; rfl, Lib.hid (Q.refl _)⟩
          · by_cases e4 : k = 4
            · have HO : Hid (okK k t ns ks = (bn && bk)) := Lib.hid (by unfold okK; rw [if_neg e1, if_pos e4, HN0.out, HK0.out])
              clear hbl HL0 hbt e1
              subst e4
              try exact absurd n6 (by decide)
              try exact absurd n7 (by decide)
              all_goals cases bn <;> cases bk
              all_goals
                go_wp2_with fail
                go_meet
                exact ⟨by rw [HO.out]; rfl, Lib.hid (Q.refl _)⟩
            · by_cases e5 : k = 5
              · obtain ⟨bu, hbu⟩ : ∃ bu, Lib.validD t = bu := ⟨_, rfl⟩
                have HO : Hid (okK k t ns ks = (bu && bn && bk)) := Lib.hid (by unfold okK; rw [if_neg e1, if_neg e4, if_pos e5, HN0.out, HK0.out, hbu])
                have htl : t.length ≤ 9223372036854775807 := by have h := HB.out; rw [bigJ] at h; exact h.1
                have hU := rvalid_any t W1 htl
                rw [hbu] at hU
                have HU := Lib.hid hU
                clear hbl HL0 hbt e1 e4 hU hbu
                subst e5
                try exact absurd n6 (by decide)
                try exact absurd n7 (by decide)
                all_goals
                  go_wp2_with fail
                  refine HU.out.mono ?_
                  rintro e wb ⟨rfl, hq2⟩
                  have HQb := Lib.hid hq2
                  have c2 := hq2.cell c2
                  have c3 := hq2.cell c3
                  clear hq2 HU
                  all_goals cases bu <;> cases bn <;> cases bk
                  all_goals
                    go_wp2_with fail
                    go_meet
                    exact ⟨by rw [HO.out]; rfl, HQb⟩
              · by_cases e6 : k = 6
                · have HO : Hid (okK k t ns ks = (bt && bn)) := Lib.hid (by unfold okK; rw [if_neg e1, if_neg e4, if_neg e5, if_pos e6, hbt, HN0.out])
                  clear hbl HL0 hbk HK0 e1 e4 e5
                  subst e6
                  try exact absurd n6 (by decide)
                  try exact absurd n7 (by decide)
                  all_goals cases bt <;> cases bn
                  all_goals
                    go_wp2_with fail
                    go_meet
                    exact ⟨by rw [HO.out]; rfl, Lib.hid (Q.refl _)⟩
                · by_cases e7 : k = 7
                  · have HO : Hid (okK k t ns ks = (bt && bl)) := Lib.hid (by unfold okK; rw [if_neg e1, if_neg e4, if_neg e5, if_neg e6, if_pos e7, hbt, HL0.out])
                    clear hbn HN0 hbk HK0 e1 e4 e5 e6
                    subst e7
                    try exact absurd n6 (by decide)
                    try exact absurd n7 (by decide)
                    all_goals cases bt <;> cases bl
                    all_goals
                      go_wp2_with fail
                      go_meet
                      exact ⟨by rw [HO.out]; rfl, Lib.hid (Q.refl _)⟩
                  · have HO : Hid (okK k t ns ks = false) := Lib.hid (by unfold okK; rw [if_neg e1, if_neg e4, if_neg e5, if_neg e6, if_neg e7])
                    have m1 : (k == 1) = false := by simp; omega
                    have m2 : (k == 2) = false := by simp; omega
                    have m3 : (k == 3) = false := by simp; omega
                    have m4 : (k == 4) = false := by simpa using e4
                    have m5 : (k == 5) = false := by simpa using e5
                    have m6 : (k == 6) = false := by simpa using e6
                    have m7 : (k == 7) = false := by simpa using e7
                    clear hbn hbk hbl hbt e1 e4 e5 e6 e7
                    try exact absurd (m6.symm.trans n6) (by decide)
                    try exact absurd (m7.symm.trans n7) (by decide)
                    all_goals
                      go_wp2_with fail
                      go_meet
                      exact ⟨by rw [HO.out], Lib.hid (Q.refl _)⟩
        case rest =>
          obtain ⟨rfl, HQc⟩ := hcut
          rename World => wc
          obtain ⟨ok, hok⟩ : ∃ ok, okK k t ns ks = ok := ⟨_, rfl⟩
          rw [hok]
          have HOk := Lib.hid hok
          obtain ⟨R2, hR2⟩ : ∃ R2, (ok && ns.all Lib.validD) = R2 := ⟨_, rfl⟩
          have HR2 := Lib.hid hR2
          obtain ⟨A0, c0', hA0, -, -, hns⟩ := NsV.at (show NsV w (.slice A ns.length c) ns by have := HJ.out; rw [JV] at this; exact this.1)
          injection hA0 with e1 _ e2
          subst e1
          subst e2
          have HNs := Lib.hid hns
          have hnl : ns.length ≤ 9223372036854775807 := by omega
          have hkl : ks.length ≤ 9223372036854775807 := by omega
          clear hok hR2 hns c0 c1 n6
          try clear n7
          clear c2 c3
          have c2 := HQc.out.cell (show W1.cell? ⟨jb, 2, none⟩ = some (.slice A ns.length c) by rw [cell_of_row _ _ _ _ _ _ HRow.out]; rfl)
          go_upto_region 20 with (fail)
          clear c2
          go_loopg [8, 10] (ns.length + 1) (fun gk ov i wx => ∃ (q : Nat) (o : Bool), gk = ns.length - q + 1 ∧ q ≤ ns.length ∧ ov = .bool o ∧ i = .int .i64 (q : Int) ∧ Hid (Q W1 wx ∧ (o && (ns.drop q).all Lib.validD) = R2))
          case atStart => exact ⟨0, ok, rfl, by omega, rfl, rfl, Lib.hid ⟨HQc.out, by rw [List.drop_zero]; exact HR2.out⟩⟩
          case round =>
            obtain ⟨q, o, rfl, hq, rfl, rfl, HI⟩ := hrel
            rename World => wa
            have c2 := HI.out.1.cell (show W1.cell? ⟨jb, 2, none⟩ = some (.slice A ns.length c) by rw [cell_of_row _ _ _ _ _ _ HRow.out]; rfl)
            have c3 := HI.out.1.cell (show W1.cell? ⟨jb, 3, none⟩ = some (.slice B ks.length c') by rw [cell_of_row _ _ _ _ _ _ HRow.out]; rfl)
            by_cases hgo : q < ns.length ∧ o = true
            · obtain ⟨hlt, rfl⟩ := hgo
              have hdq : decide (q < ns.length) = true := by simpa using hlt
              obtain ⟨g, off, e1, hcell⟩ := HNs.out q hlt
              subst e1
              have hbx : (gL ns q).length ≤ 9223372036854775807 := by
                have h := HB.out
                rw [bigJ] at h
                refine h.2.1 _ ?_
                unfold gL
                simp [List.getD, hlt]
              obtain ⟨x, hx⟩ : ∃ x, gL ns q = x := ⟨_, rfl⟩
              have hd2 := gL_drop ns q hlt
              rw [hx] at hcell hbx hd2
              have hcw := (HQ1.out.trans HI.out.1).cell hcell
              have HNe : Hid ((Lib.validD x && (ns.drop (q + 1)).all Lib.validD) = R2) := Lib.hid (by
                have h := HI.out.2
                rw [hd2, List.all_cons, Bool.true_and] at h; exact h)
              have HU := Lib.hid (rvalid_any x wa hbx)
              have HQa := Lib.hid HI.out.1
              obtain ⟨o2, ho2⟩ : ∃ o2, Lib.validD x = o2 := ⟨_, rfl⟩
              rw [ho2] at HU HNe
              clear HI hcell hd2 hx ho2 hbx
              go_wp2_with fail
              refine HU.out.mono ?_
              rintro e wb ⟨rfl, hq2⟩
              have HN : Hid (Q W1 wb ∧ (o2 && (ns.drop (q + 1)).all Lib.validD) = R2) := Lib.hid ⟨HQa.out.trans hq2, HNe.out⟩
              clear hq2 HU HQa HNe hcw c2 c3
              go_wp2_with fail
              go_roundg (ns.length - (q + 1) + 1)
              case measure => omega
              case rel => exact ⟨q + 1, o2, rfl, by omega, rfl, by simp, HN⟩
            · have hcs : (q < ns.length ∧ o = false) ∨ ¬ q < ns.length := by
                cases o with
                | true => right; intro h; exact hgo ⟨h, rfl⟩
                | false => by_cases h : q < ns.length; exact .inl ⟨h, rfl⟩; exact .inr h
              have HX : Hid (Q W1 wa ∧ o = R2) := Lib.hid ⟨HI.out.1, by
                have h := HI.out.2
                rcases hcs with ⟨_, rfl⟩ | h2
                · simpa using h
                · rw [List.drop_of_length_le (by omega)] at h; simpa using h⟩
              clear HI hgo
              rcases hcs with ⟨hlt, rfl⟩ | hlt
              case' inl =>
                have hdq : decide (q < ns.length) = true := by simpa using hlt
              case' inr =>
                have hdq : decide (q < ns.length) = false := by simpa using hlt
              all_goals
                clear hlt
                go_upto_region 24 with (fail)
                clear c2 c3 hdq
                go_loopg [2, 8, 11] (ks.length + 1) (fun gk lv ov i wx => ∃ (q : Nat) (o : Bool) (L' : Int), gk = ks.length - q + 1 ∧ q ≤ ks.length ∧ lv = .int .i64 L' ∧ ov = .bool o ∧ i = .int .i64 (q : Int) ∧ -1 ≤ L' ∧ L' ≤ 8000 ∧ Hid (Q W1 wx ∧ KiS k t ns ks d L R2 q o L'))
                case atStart =>
                  refine ⟨0, R2, L - 1, rfl, by omega, rfl, by rw [HX.out.2], rfl, by omega, by omega, Lib.hid ⟨HX.out.1, ?_⟩⟩
                  exact kis_start HN.out (HR2.out ▸ HOk.out ▸ rfl) (by omega)
                case round =>
                  obtain ⟨q, o, L', rfl, hq, rfl, rfl, rfl, hl1, hl2, HI⟩ := hrel
                  rename World => wa
                  have c3 := HI.out.1.cell (show W1.cell? ⟨jb, 3, none⟩ = some (.slice B ks.length c') by rw [cell_of_row _ _ _ _ _ _ HRow.out]; rfl)
                  have HRe : Hid (R2 = (okK k t ns ks && ns.all Lib.validD)) := Lib.hid (by rw [← HR2.out, HOk.out])
                  by_cases hgo : q < ks.length ∧ o = true
                  · obtain ⟨hlt, rfl⟩ := hgo
                    have hdq : decide (q < ks.length) = true := by simpa using hlt
                    obtain ⟨B0, c0, e0, _, _, hkid⟩ := HJ.out.kid
                    obtain ⟨g, off, vn', vk', e1, y0, y1, y2, y3, yv⟩ := hkid q hlt
                    subst e1
                    injection e0 with e2 _ e3
                    subst e2
                    have hqa := HQ1.out.trans HI.out.1
                    have hki := HI.out.2
                    have hL0' : 0 ≤ L' := by
                      rcases hki with ⟨_, _, _, _, h⟩ | ⟨h, _⟩
                      · exact h
                      · cases h
                    have hokt : okK k t ns ks = true := by
                      rcases hki with ⟨_, h, _, _, _⟩ | ⟨h, _⟩
                      · rw [HRe.out, Bool.and_eq_true] at h; exact h.1
                      · cases h
                    have HRg : Hid (wa.rangeAt g (off + q * 4) (cellJ (gK ks q) vn' vk')) := Lib.hid (fun j u hu => by
                      match j, hu with
                      | 0, hu => injection hu with hu; subst hu; exact hqa.cell y0
                      | 1, hu => injection hu with hu; subst hu; exact hqa.cell y1
                      | 2, hu => injection hu with hu; subst hu; exact hqa.cell y2
                      | 3, hu => injection hu with hu; subst hu; exact hqa.cell y3
                      | n + 4, hu => simp [cellJ, jsonC] at hu)
                    have HKid := Lib.hid (HIH.out hokt HN.out q hlt wa vn' vk' L' (yv.q hqa) hL0' hl2)
                    have HIn : Hid ((Tryz.prog.info? 46).map (·.size) = some (cellJ (gK ks q) vn' vk').length) := Lib.hid (info_sz (gK ks q) vn' vk')
                    have HKi := Lib.hid (kis_next (L2 := L' - cntJ (gK ks q)) HN.out HRe.out hki hlt (fun _ => rfl))
                    have HKn : Hid (∀ L2, (rtB (gK ks q) (d - 1) L' = true → L2 = L' - cntJ (gK ks q)) → KiS k t ns ks d L R2 (q + 1) (rtB (gK ks q) (d - 1) L') L2) := Lib.hid (fun L2 h => kis_next HN.out HRe.out hki hlt h)
                    have HQa := Lib.hid HI.out.1
                    clear y0 y1 y2 y3 yv hqa hkid e3 hki hokt HI HKi
                    go_wp2_with (refine wpList_load_mid rfl 46 (.tmp 137) rfl g (off + q * 4) rfl (cellJ (gK ks q) vn' vk') _ HRg.out Tryz.underlying46 rfl HIn.out ?_; simp only [Act.put, List.setIfInBounds_toArray, List.set_cons_succ, List.set_cons_zero])
                    refine HKid.out.mono ?_
                    rintro e wb ⟨hq2, L2, rfl, hb1, hb2, hb3⟩
                    obtain ⟨o2, ho2⟩ : ∃ o2, rtB (gK ks q) (d - 1) L' = o2 := ⟨_, rfl⟩
                    have HNx : Hid (Q W1 wb ∧ KiS k t ns ks d L R2 (q + 1) o2 L2) := Lib.hid ⟨HQa.out.trans hq2, by rw [← ho2]; exact HKn.out L2 hb3⟩
                    rw [ho2]
                    clear hq2 HQa HKn hb3 ho2 HKid HRg HIn c3
                    go_wp2_with fail
                    go_roundg (ks.length - (q + 1) + 1)
                    case measure => omega
                    case rel => exact ⟨q + 1, o2, L2, rfl, by omega, rfl, rfl, by simp, hb1, hb2, HNx⟩
                  · have hcs : (q < ks.length ∧ o = false) ∨ ¬ q < ks.length := by
                      cases o with
                      | true => right; intro h; exact hgo ⟨h, rfl⟩
                      | false => by_cases h : q < ks.length; exact .inl ⟨h, rfl⟩; exact .inr h
                    have he := kis_end HN.out HRe.out HI.out.2 (fun ho => by
                      rcases hcs with ⟨_, h⟩ | h
                      · rw [ho] at h; cases h
                      · omega)
                    have HX : Hid (RrP (.mk k t ns ks) d L w (.returned (.tuple #[.bool o, .int .i64 L'])) wa) := Lib.hid ⟨HQ1.out.trans HI.out.1, L', by rw [← he.1], hl1, hl2, fun h => he.2 (he.1.trans h)⟩
                    clear HI hgo he
                    rcases hcs with ⟨hlt, rfl⟩ | hlt
                    case' inl =>
                      have hdq : decide (q < ks.length) = true := by simpa using hlt
                    case' inr =>
                      have hdq : decide (q < ks.length) = false := by simpa using hlt
                    all_goals
                      clear hlt
                      go_wp2_with fail
                      go_ret2
                      exact HX.out
end Go.Proofs.YtlhhiiemojhjdaaGreatDoor
set_option linter.unusedVariables false
set_option linter.unusedSimpArgs false
namespace Go.Proofs.YtlhhiiemojhjdaaGreatDoor
open Go Go.RowKit
theorem rright_all : ∀ (n : Nat) (j : JsonD), cntJ j ≤ n → ∀ (d : Nat), d ≤ 20 → ∀ (L : Int) (w : World) (vn vk : Value), JV w j vn vk → bigJ 9223372036854775807 j → 0 ≤ L → L ≤ 8000 →
    Calls Tryz.prog 41 #[.agg (cellJ j vn vk).toArray, .int .i64 (20 - (d : Int)), .int .i64 L] w (RrP j d L w)
  | 0, j, hn, _, _, _, _, _, _, _, _, _, _ => absurd hn (by have := cnt_pos j; omega)
  | n + 1, .mk k t ns ks, hn, d, hd, L, w, vn, vk, hj, hb, h0, h8 => by
    rw [cntJ] at hn
    refine rright_step k t ns ks d (20 - (d : Int)) L rfl hd h0 h8 w vn vk hj hb (fun hok hdp i hi W un uk L' hv h1 h2 => ?_)
    have hc := cnt_gK hi
    have hbk : bigJ 9223372036854775807 (gK ks i) := by
      have h := hb
      rw [bigJ] at h
      exact bigKs_gK h.2.2 hi
    cases d with
    | zero =>
      exfalso
      have h67 : ¬ (k = 6 ∨ k = 7) := fun h => hdp ⟨h, rfl⟩
      unfold okK at hok
      have hk : ks = [] := by
        split at hok
        · simp at hok; exact hok.2
        · split at hok
          · simp at hok; exact hok.2
          · split at hok
            · simp at hok; exact hok.2
            · split at hok
              · rename_i h; exact absurd (.inl h) h67
              · split at hok
                · rename_i h; exact absurd (.inr h) h67
                · cases hok
      rw [hk] at hi; simp at hi
    | succ d' =>
      have := rright_all n (gK ks i) (by omega) d' (by omega) L' W un uk hv hbk h1 h2
      rw [show (20 : Int) - ((d' : Nat) : Int) = 20 - ((d' + 1 : Nat) : Int) + 1 by omega] at this
      exact this
set_option maxRecDepth 100000 in
theorem rRight_any (j : JsonD) (w : World) (vn vk : Value) (hj : JV w j vn vk) (hb : bigJ 9223372036854775807 j) :
    Calls Tryz.prog 28 #[.agg (cellJ j vn vk).toArray] w fun e w' => e = .returned (.bool (rtB j 20 8000)) ∧ Q w w' := by
  have hcall := Lib.hid (fun W (hq : Q w W) => rright_all (cntJ j) j (Nat.le_refl _) 20 (by omega) 8000 W vn vk (hj.q hq) hb (by omega) (by omega))
  obtain ⟨⟨A, n, c, rfl⟩, ⟨B, m, c', rfl⟩⟩ := jv_slices hj
  obtain ⟨o, ho⟩ : ∃ o, rtB j 20 8000 = o := ⟨_, rfl⟩
  have HO := Lib.hid ho
  rw [ho]
  clear ho hj hb
  have HSz := Lib.hid (info_sz j (.slice A n c) (.slice B m c'))
  have HRow := Lib.hid (heap_alloc_new w (.cells (cellJ j (.slice A n c) (.slice B m c')).toArray 46))
  go_enter Tryz.func28, Tryz.ntmps28
  go_wp2_with (refine wpList_load_row rfl 46 (.tmp 1) rfl w.heap.size rfl 46 (cellJ j (.slice A n c) (.slice B m c')).toArray (0, 0) _ HRow.out Tryz.underlying46 rfl HSz.out ?_)
  refine (hcall.out _ ((Q.refl w).alloc _)).mono ?_
  rintro e w1 ⟨hq1, L', rfl, -, -, -⟩
  have HQ1 := Lib.hid (((Q.refl w).alloc _).trans hq1)
  rw [HO.out]
  clear hq1
  go_wp2_with fail
  go_ret
  exact ⟨rfl, HQ1.out⟩
end Go.Proofs.YtlhhiiemojhjdaaGreatDoor
set_option linter.unusedVariables false
set_option linter.unusedSimpArgs false
namespace Go.Proofs.YtlhhiiemojhjdaaGreatDoor
open Go Go.RowKit
def RFindP (j : JsonD) (x : Txt) (w : World) (e : Ending) (w' : World) : Prop := ∃ un uk, e = .returned (.tuple #[.agg (cellJ (findJ j x).1 un uk).toArray, .bool (findJ j x).2]) ∧ JV w' (findJ j x).1 un uk ∧ Q w w'
theorem jv_nil (w : World) : JV w zeroJ (.slice none 0 0) (.slice none 0 0) := by
  rw [zeroJ, JV]
  exact ⟨⟨none, 0, rfl, by simp, by omega, fun h => absurd h (by simp)⟩, none, 0, rfl, by simp, by omega, fun h => absurd h (by simp)⟩
theorem rfind_none {j : JsonD} {x : Txt} {w W : World} {B : Nat} (hB : w.heap.size = B) (hq : Q w W) (h : findJ j x = (zeroJ, false)) : RFindP j x w (.returned (.tuple #[.agg (cellJ zeroJ (.slice none 0 0) (.slice none 0 0)).toArray, .bool false])) (W.setRow (B + 1) zeroC.toArray) := by
  refine ⟨.slice none 0 0, .slice none 0 0, by rw [h], by rw [h]; exact jv_nil _, hq.setRow (g := B + 1) (by omega) zeroC.toArray⟩
theorem ixN_step (x : Txt) (ns : List Txt) (q : Nat) (h : q < ns.length) : ixN x (ns.drop q) q = if x = gL ns q then (q : Int) else ixN x (ns.drop (q + 1)) (q + 1) := by
  have e : ns.drop q = gL ns q :: ns.drop (q + 1) := by simp [gL, List.getD, h]
  rw [e, ixN]
set_option maxRecDepth 100000 in
set_option maxHeartbeats 4000000 in
theorem rFind_any (j : JsonD) (x : Txt) (w : World) (vn vk : Value) (hj : JV w j vn vk) (hb : bigJ 9223372036854775807 j) :
    Calls Tryz.prog 14 #[.agg (cellJ j vn vk).toArray, .string ⟨x.toArray⟩] w (RFindP j x w) := by
  obtain ⟨k, t, ns, ks⟩ := j
  have HC1 := Lib.hid (fun W (hq : Q w W) => rRight_any (.mk k t ns ks) W vn vk (hj.q hq) hb)
  obtain ⟨A2, c2n, cells, e2, hjk, hcl, hnone, hcc⟩ := hj.cells
  have hnv : NsV w vn ns := by rw [JV] at hj; exact hj.1
  have HKd := Lib.hid hj.kidAt
  subst e2
  obtain ⟨A1, c1n, rfl, hnl1, hnl2, hnat⟩ := hnv.at
  have HNat := Lib.hid hnat
  have hnl : ns.length ≤ 9223372036854775807 := by omega
  clear hj hnv hjk hcl hnone hcc hb hnat
  go_enter Tryz.func14, Tryz.ntmps14
  go_upto_region 1 with (fail)
  have e1 := heap_alloc_new w (.cells (cellJ (.mk k t ns ks) (.slice A1 ns.length c1n) (.slice A2 ks.length c2n)).toArray 46)
  have q1 : Q w (w.alloc (.cells (cellJ (.mk k t ns ks) (.slice A1 ns.length c1n) (.slice A2 ks.length c2n)).toArray 46)) := (Q.refl w).alloc _
  have s1 : (w.alloc (.cells (cellJ (.mk k t ns ks) (.slice A1 ns.length c1n) (.slice A2 ks.length c2n)).toArray 46)).heap.size = w.heap.size + 1 := by simp
  obtain ⟨W1, hW1⟩ : ∃ W1, w.alloc (.cells (cellJ (.mk k t ns ks) (.slice A1 ns.length c1n) (.slice A2 ks.length c2n)).toArray 46) = W1 := ⟨_, rfl⟩
  rw [hW1] at e1 q1 s1
  rw [hW1]
  have e2 := heap_alloc_new W1 (.cells zeroC.toArray 46)
  have q2 : Q W1 (W1.alloc (.cells zeroC.toArray 46)) := (Q.refl W1).alloc _
  rw [s1] at e2
  obtain ⟨W2, hW2⟩ : ∃ W2, W1.alloc (.cells zeroC.toArray 46) = W2 := ⟨_, rfl⟩
  rw [hW2] at e2 q2
  have hW2' : W1.alloc (.cells #[.int .i64 0, .string ⟨#[]⟩, .slice none 0 0, .slice none 0 0] 46) = W2 := hW2
  rw [hW2']
  obtain ⟨B, hB⟩ : ∃ B, w.heap.size = B := ⟨_, rfl⟩
  have e1 := q2.block e1
  rw [hB] at e1 e2
  rw [hB]
  have HB := Lib.hid hB
  have HE1 := Lib.hid e1
  have HE2 := Lib.hid e2
  have HQ2 := Lib.hid (q1.trans q2)
  have HSz := Lib.hid (info_sz (.mk k t ns ks) (.slice A1 ns.length c1n) (.slice A2 ks.length c2n))
  have HZI := Lib.hid (info_sz zeroJ (.slice none 0 0) (.slice none 0 0))
  have HZO := Lib.hid (cellJ_one (j := zeroJ) (un := .slice none 0 0) (uk := .slice none 0 0) ⟨none, 0, 0, rfl⟩ ⟨none, 0, 0, rfl⟩)
  clear e1 e2 q1 q2 s1 hW1 hW2 hW2' hB
  go_wp2_with (refine wpList_load_row rfl 46 (.tmp 2) rfl B rfl 46 (cellJ (.mk k t ns ks) (.slice A1 ns.length c1n) (.slice A2 ks.length c2n)).toArray (0, 0) _ HE1.out Tryz.underlying46 rfl HSz.out ?_)
  refine (HC1.out _ HQ2.out).mono ?_
  rintro e W3 ⟨rfl, hq3⟩
  have HQ3 := Lib.hid (HQ2.out.trans hq3)
  have HE3 := Lib.hid (hq3.block HE2.out)
  have HE4 := Lib.hid (hq3.block HE1.out)
  clear hq3 HC1
  obtain ⟨p, hp⟩ : ∃ p, rtB (.mk k t ns ks) 20 8000 = p := ⟨_, rfl⟩
  have HP := Lib.hid hp
  rw [hp]
  clear hp
  go_wp2_with fail
  by_cases hg : p = true ∧ k = 7
  · obtain ⟨rfl, rfl⟩ := hg
    have hw := rt_wf HP.out
    have HNk := Lib.hid (wf_obj hw.1)
    have hnl8 : ns.length ≤ 8000 := by
      have h1 := cnt_len ks
      have h2 := hw.2
      rw [cntJ] at h2
      have h3 := HNk.out
      omega
    clear hw
    go_loopg [7] (ns.length + 1) (fun gk i wx => ∃ q : Nat, gk = ns.length - q + 1 ∧ q ≤ ns.length ∧ i = .int .i64 (q : Int) ∧ Hid (ixN x (ns.drop q) q = ixN x ns 0) ∧ Hid (Q W3 wx))
    case atStart => exact ⟨0, rfl, by omega, rfl, Lib.hid rfl, Lib.hid (Q.refl W3)⟩
    case round =>
      obtain ⟨q, rfl, hq, rfl, HI, HQI⟩ := hrel
      rename World => wa
      have HQw := Lib.hid (HQ3.out.trans HQI.out)
      have HEw := Lib.hid (HQI.out.block HE3.out)
      have h4w := HQI.out.block HE4.out
      have x0 : wa.cell? ⟨B, 0, none⟩ = some (.int .i64 7) := by rw [cell_of_row _ _ _ _ _ _ h4w]; rfl
      have x2 : wa.cell? ⟨B, 2, none⟩ = some (.slice A1 ns.length c1n) := by rw [cell_of_row _ _ _ _ _ _ h4w]; rfl
      have x3 : wa.cell? ⟨B, 3, none⟩ = some (.slice A2 ks.length c2n) := by rw [cell_of_row _ _ _ _ _ _ h4w]; rfl
      clear h4w
      by_cases hlt : q < ns.length
      · have hdq : decide (q < ns.length) = true := by simpa using hlt
        obtain ⟨gn, on, hAn, hcn⟩ := HNat.out q hlt
        subst hAn
        have y0 := HQw.out.cell hcn
        obtain ⟨nm, hnm⟩ : ∃ nm, gL ns q = nm := ⟨_, rfl⟩
        have HSt := Lib.hid (ixN_step x ns q hlt)
        rw [hnm] at y0 HSt
        clear hcn hnm
        by_cases hnx : nm = x
        · have g1 : (nm == x) = true := by simpa using hnx
          have hix : ixN x ns 0 = (q : Int) := by rw [← HI.out, HSt.out, if_pos hnx.symm]
          have HF := Lib.hid (find_kid (x := x) rfl HP.out hix)
          obtain ⟨A', c', e', hc1, hc2, hkd⟩ := HKd.out
          injection e' with e1 _ e2
          subst e1 e2
          obtain ⟨g, off, un, uk, hA⟩ := hkd q (by have := HNk.out; omega)
          obtain rfl := hA.a
          have HRg : Hid (wa.rangeAt g (off + q * 4) (cellJ (gK ks q) un uk)) := Lib.hid (fun j u hu => HQw.out.cell (hA.rg j u hu))
          have HIn : Hid ((Tryz.prog.info? 46).map (·.size) = some (cellJ (gK ks q) un uk).length) := Lib.hid (info_sz (gK ks q) un uk)
          have HIn5 := Lib.hid (info_sz (gK ks q) un uk)
          have HOne5 := Lib.hid (cellJ_one (j := gK ks q) (jv_slices hA.jv).1 (jv_slices hA.jv).2)
          have HR0 := Lib.hid (setRow_at HEw.out (cellJ (gK ks q) un uk).toArray)
          have hdk : q < ks.length := by have := HNk.out; omega
          have HX : Hid (RFindP (.mk 7 t ns ks) x w (.returned (.tuple #[.agg (cellJ (gK ks q) un uk).toArray, .bool true])) (wa.setRow (B + 1) (cellJ (gK ks q) un uk).toArray)) := Lib.hid (by
            have hB := HB.out
            have q9 := HQw.out.setRow (g := B + 1) (by omega) (cellJ (gK ks q) un uk).toArray
            refine ⟨un, uk, by rw [HF.out], ?_, q9⟩
            rw [HF.out]
            exact hA.jv.q q9)
          clear hkd hA hix hnx HI HSt HKd HNat HF
          go_wp2_with (first | refine wpList_load_mid rfl 46 (.tmp 35) rfl g (off + q * 4) rfl (cellJ (gK ks q) un uk) _ HRg.out Tryz.underlying46 rfl HIn.out ?_; simp only [Act.put, List.setIfInBounds_toArray, List.set_cons_succ, List.set_cons_zero] | refine wpList_store_row rfl 46 (.tmp 4) (.tmp 36) rfl (B + 1) (cellJ (gK ks q) un uk).toArray rfl rfl 46 _ HEw.out HIn5.out rfl HOne5.out ?_)
          exact bodyPost_ret (results_json (p := 4) (q := 5) rfl (by rfl) HR0.out) rfl HX.out
        · have g1 : (nm == x) = false := by simpa using hnx
          have HN : Hid (ixN x (ns.drop (q + 1)) (q + 1) = ixN x ns 0) := Lib.hid (by rw [← HI.out, HSt.out, if_neg (fun h => hnx h.symm)])
          clear hnx HI HSt
          go_wp2_with fail
          go_roundg (ns.length - (q + 1) + 1)
          case measure => omega
          case rel => exact ⟨q + 1, rfl, by omega, by simp, HN, HQI⟩
      · have hdq : decide (q < ns.length) = false := by simpa using hlt
        have HF : Hid (findJ (.mk 7 t ns ks) x = (zeroJ, false)) := Lib.hid (find_no (fun h => by
          have h2 : 0 ≤ ixN x ns 0 := h.2.2
          rw [← HI.out, List.drop_of_length_le (by omega), ixN] at h2
          omega))
        have HX := Lib.hid (rfind_none HB.out HQw.out HF.out)
        have HR0 := Lib.hid (setRow_at HEw.out zeroC.toArray)
        clear HI hlt x3
        go_wp2_with (refine wpList_store_row rfl 46 (.tmp 4) (.tmp 37) rfl (B + 1) zeroC.toArray rfl rfl 46 _ HEw.out HZI.out rfl HZO.out ?_)
        exact bodyPost_ret (results_json (j := zeroJ) (vn := .slice none 0 0) (vk := .slice none 0 0) (p := 4) (q := 5) rfl (by rfl) HR0.out) rfl HX.out
  · have HF : Hid (findJ (.mk k t ns ks) x = (zeroJ, false)) := Lib.hid (find_no (fun h => by
      have h1 : k = 7 := h.1
      have h2 := h.2.1
      rw [HP.out] at h2
      exact hg ⟨h2, h1⟩))
    have HX := Lib.hid (rfind_none HB.out HQ3.out HF.out)
    have HR0 := Lib.hid (setRow_at HE3.out zeroC.toArray)
    have HG := Lib.hid hg
    clear hg
    go_loopg [7] 1 (fun gk i wx => gk = 1 ∧ i = .int .i64 0 ∧ W3 = wx)
    case atStart => exact ⟨rfl, rfl, rfl⟩
    case round =>
      obtain ⟨rfl, rfl, rfl⟩ := hrel
      have x0 : W3.cell? ⟨B, 0, none⟩ = some (.int .i64 k) := by rw [cell_of_row _ _ _ _ _ _ HE4.out]; rfl
      have x2 : W3.cell? ⟨B, 2, none⟩ = some (.slice A1 ns.length c1n) := by rw [cell_of_row _ _ _ _ _ _ HE4.out]; rfl
      by_cases hl0 : 0 < ns.length
      case' pos => have hdq : decide (0 < ns.length) = true := by simpa using hl0
      case' neg => have hdq : decide (0 < ns.length) = false := by simpa using hl0
      case pos =>
        clear hl0
        cases p with
        | false =>
          go_wp2_with (refine wpList_store_row rfl 46 (.tmp 4) (.tmp 37) rfl (B + 1) zeroC.toArray rfl rfl 46 _ HE3.out HZI.out rfl HZO.out ?_)
          exact bodyPost_ret (results_json (j := zeroJ) (vn := .slice none 0 0) (vk := .slice none 0 0) (p := 4) (q := 5) rfl (by rfl) HR0.out) rfl HX.out
        | true =>
          have hk7 : (k == 7) = false := by
            have := HG.out
            simp at this; simpa using this
          go_wp2_with (refine wpList_store_row rfl 46 (.tmp 4) (.tmp 37) rfl (B + 1) zeroC.toArray rfl rfl 46 _ HE3.out HZI.out rfl HZO.out ?_)
          exact bodyPost_ret (results_json (j := zeroJ) (vn := .slice none 0 0) (vk := .slice none 0 0) (p := 4) (q := 5) rfl (by rfl) HR0.out) rfl HX.out
      case neg =>
        clear hl0
        go_wp2_with (refine wpList_store_row rfl 46 (.tmp 4) (.tmp 37) rfl (B + 1) zeroC.toArray rfl rfl 46 _ HE3.out HZI.out rfl HZO.out ?_)
        exact bodyPost_ret (results_json (j := zeroJ) (vn := .slice none 0 0) (vk := .slice none 0 0) (p := 4) (q := 5) rfl (by rfl) HR0.out) rfl HX.out
end Go.Proofs.YtlhhiiemojhjdaaGreatDoor
set_option linter.unusedVariables false
set_option linter.unusedSimpArgs false
namespace Go.Proofs.YtlhhiiemojhjdaaGreatDoor
open Go Go.RowKit
def stN : Option Nat → Nat
  | none => 0
  | some a => a + 1
def mesM (P S : Txt) (so : Option Nat) (I B : Nat) : Nat :=
  ((P.length - stN so) * (S.length + 1) + (S.length - B)) * (P.length + 2) + (P.length + 1 - I)
theorem mes_step (P S : Txt) (so : Option Nat) (I B : Nat) (h : I < P.length) : mesM P S so (I + 1) B < mesM P S so I B := by
  unfold mesM; omega
theorem mul_lt_aux {x y z a b : Nat} (h : x + 1 ≤ y) (ha : a < z) : x * z + a < y * z + b := by
  have := Nat.mul_le_mul_right z h
  rw [Nat.add_mul, Nat.one_mul] at this; omega
theorem mes_again (P S : Txt) (a I B : Nat) (h : B < S.length) : mesM P S (some a) (a + 1) (B + 1) < mesM P S (some a) I B := by
  unfold mesM
  exact mul_lt_aux (by omega) (by omega)
theorem mes_star (P S : Txt) (so : Option Nat) (I K B : Nat) (h : I < P.length) (hs : ∀ a, so = some a → a < I) : mesM P S (some I) (I + 1) K < mesM P S so I B := by
  unfold mesM
  refine mul_lt_aux ?_ (by omega)
  have h1 : P.length - (I + 1) + 1 ≤ P.length - stN so := by
    cases so with
    | none => have e : stN none = 0 := rfl
              rw [e]; omega
    | some a => have := hs a rfl
                have e : stN (some a) = a + 1 := rfl
                rw [e]; omega
  have h2 := Nat.mul_le_mul_right (S.length + 1) h1
  rw [Nat.add_mul, Nat.one_mul] at h2
  have h3 : stN (some I) = I + 1 := rfl
  rw [h3]
  omega
theorem inv_lt {P S : Txt} {I K a B : Nat} (h : MatInv P S I K (some a) B) : a < I ∧ B ≤ K := by
  have g : MatSeg P S I K a B := h.2.2
  exact ⟨g.1, g.2⟩
def StarV (so : Option Nat) (v : Value) : Prop := (so = none ∧ v = .int .i64 (-1)) ∨ ∃ a : Nat, so = some a ∧ v = .int .i64 (a : Int)
set_option maxRecDepth 100000 in
theorem Match_any (P S : Txt) (w : World) (hp : P.length ≤ 140737488355328) (hs : S.length ≤ 140737488355328) : Calls Tryz.prog 10 #[.string ⟨P.toArray⟩, .string ⟨S.toArray⟩] w fun e w' => e = .returned (.bool (matL P S)) ∧ Q w w' := by
  obtain ⟨N, hN⟩ : ∃ N, matL P S = N := ⟨_, rfl⟩
  have HN := Lib.hid hN
  rw [hN]
  clear hN
  go_enter Tryz.func10, Tryz.ntmps10
  go_wp2_with fail
  go_loopg [5, 6, 7, 8] (mesM P S none 0 0 + 1) (fun gk i k st b wx => ∃ (I K B : Nat) (so : Option Nat), mesM P S so I B < gk ∧ I ≤ P.length ∧ K ≤ S.length ∧ B ≤ S.length ∧ i = .int .i64 (I : Int) ∧ k = .int .i64 (K : Int) ∧ b = .int .i64 (B : Int) ∧ StarV so st ∧ Hid (MatInv P S I K so B ∧ Q w wx))
  case atStart => exact ⟨0, 0, 0, none, by omega, by omega, by omega, by omega, rfl, rfl, rfl, .inl ⟨rfl, rfl⟩, Lib.hid ⟨MatInv.start P S, Q.refl w⟩⟩
  case round =>
    obtain ⟨I, K, B, so, hg, hI, hK, hB, rfl, rfl, rfl, hso, HI⟩ := hrel
    rename World => wa
    obtain ⟨g', rfl⟩ : ∃ g', gk = g' + 1 := ⟨gk - 1, by omega⟩
    have HNext : Hid (∀ (wx : World) I' K' B' so', mesM P S so' I' B' < g' → MatInv P S I' K' so' B' → Q w wx → mesM P S so' I' B' < g' ∧ I' ≤ P.length ∧ K' ≤ S.length ∧ Hid (MatInv P S I' K' so' B' ∧ Q w wx)) := Lib.hid (fun wx I' K' B' so' h1 h2 h3 => ⟨h1, h2.1, h2.2.1, Lib.hid ⟨h2, h3⟩⟩)
    by_cases hk : K < S.length
    · have hkd : decide (K < S.length) = true := by simpa using hk
      obtain ⟨c, hc⟩ : ∃ c, gB S K = c := ⟨_, rfl⟩
      -- no fit here
      have HNo : Hid (P.length ≤ I ∨ (gB P I ≠ 42 ∧ fitB (gB P I) c = false) → matL (P.drop I) (S.drop K) = false) := Lib.hid (fun h => no_fit hk (by rw [hc]; exact h))
      by_cases hi : I < P.length
      · have hid : decide (I < P.length) = true := by simpa using hi
        obtain ⟨v, hv⟩ : ∃ v, gB P I = v := ⟨_, rfl⟩
        by_cases h42 : v = 42
        · subst h42
          have HM : Hid (mesM P S (some I) (I + 1) K < g' ∧ MatInv P S (I + 1) K (some I) K) := Lib.hid ⟨by
            have := mes_star P S so I K B hi (fun a e => by subst e; exact (inv_lt HI.out.1).1)
            omega, HI.out.1.star hi hv⟩
          have HQ := Lib.hid HI.out.2
          clear hg HI hso HNo HNext
          go_wp2_with fail
          go_roundg g'
          case measure => omega
          case rel => exact ⟨I + 1, K, K, some I, HM.out.1, by omega, by omega, by omega, by go_num, rfl, rfl, .inr ⟨I, rfl, rfl⟩, Lib.hid ⟨HM.out.2, HQ.out⟩⟩
        · have h42i : ¬ (v.toNat : Int) = 42 := fun h => h42 (UInt8.toNat_inj.1 (by simpa using (by omega : v.toNat = 42)))
          have g42 : (((v.toNat : Int)) == 42) = false := by simpa using h42i
          by_cases hf : fitB v c = true
          · have HM : Hid (mesM P S so (I + 1) B < g' ∧ MatInv P S (I + 1) (K + 1) so B) := Lib.hid ⟨by
              have := mes_step P S so I B hi
              omega, HI.out.1.step hi hk (by rw [hv]; exact h42) (by rw [hv, hc]; exact hf)⟩
            have HQ := Lib.hid HI.out.2
            clear hg HI HNo HNext
            by_cases h63 : v = 63
            · subst h63
              clear h42 h42i g42 hf
              go_wp2_with fail
              go_region
              go_wp2_with fail
              go_roundg g'
              case measure => omega
              case rel => exact ⟨I + 1, K + 1, B, so, HM.out.1, by omega, by omega, by omega, by go_num, by go_num, rfl, hso, Lib.hid ⟨HM.out.2, HQ.out.drew⟩⟩
            · have h63i : ¬ (v.toNat : Int) = 63 := fun h => h63 (UInt8.toNat_inj.1 (by simpa using (by omega : v.toNat = 63)))
              have g63 : (((v.toNat : Int)) == 63) = false := by simpa using h63i
              have hvc : v = c := by
                unfold fitB at hf
                simp only [Bool.or_eq_true, beq_iff_eq] at hf
                exact hf.resolve_left h63
              subst hvc
              clear h63 h42 hf
              go_wp2_with fail
              go_region
              go_wp2_with fail
              go_roundg g'
              case measure => omega
              case rel => exact ⟨I + 1, K + 1, B, so, HM.out.1, by omega, by omega, by omega, by go_num, by go_num, rfl, hso, Lib.hid ⟨HM.out.2, HQ.out.drew⟩⟩
          · have h63 : v ≠ 63 := fun h => by subst h; exact hf rfl
            have h63i : ¬ (v.toNat : Int) = 63 := fun h => h63 (UInt8.toNat_inj.1 (by simpa using (by omega : v.toNat = 63)))
            have g63 : (((v.toNat : Int)) == 63) = false := by simpa using h63i
            have hvc : ¬ (v.toNat : Int) = (c.toNat : Int) := fun h => hf (by
              have : v = c := UInt8.toNat_inj.1 (by omega)
              subst this; unfold fitB; simp)
            have gvc : ((v.toNat : Int) == (c.toNat : Int)) = false := by simpa using hvc
            have HF : Hid (matL (P.drop I) (S.drop K) = false) := Lib.hid (HNo.out (.inr ⟨by rw [hv]; exact h42, by rw [hv]; simpa using hf⟩))
            clear HNo HNext hf h63 h42
            rcases hso with ⟨rfl, rfl⟩ | ⟨a, rfl, rfl⟩
            · have HX : Hid (false = N) := Lib.hid (HI.out.1.never HF.out ▸ HN.out)
              have HQ := Lib.hid HI.out.2
              clear hg HI
              go_wp2_with fail
              go_region
              go_wp2_with fail
              go_ret
              exact ⟨by rw [← HX.out]; rfl, HQ.out.drew⟩
            · have HM : Hid (mesM P S (some a) (a + 1) (B + 1) < g' ∧ MatInv P S (a + 1) (B + 1) (some a) (B + 1) ∧ a < P.length) := Lib.hid ⟨by
                have := mes_again P S a I B (by have := (inv_lt HI.out.1).2; omega)
                omega, HI.out.1.again hk HF.out, by have := (inv_lt HI.out.1).1; omega⟩
              have HQ := Lib.hid HI.out.2
              have hal : a < P.length := HM.out.2.2
              have hbl : B < S.length := by have := (inv_lt HI.out.1).2; omega
              have hge : decide (0 ≤ (a : Int)) = true := by simp
              clear hg HI
              go_wp2_with fail
              go_region
              go_wp2_with fail
              go_roundg g'
              case measure => omega
              case rel => exact ⟨a + 1, B + 1, B + 1, some a, HM.out.1, by omega, by omega, by omega, by go_num, by go_num, by go_num, .inr ⟨a, rfl, rfl⟩, Lib.hid ⟨HM.out.2.1, HQ.out.drew⟩⟩
      · have hid : decide (I < P.length) = false := by simpa using hi
        have HF : Hid (matL (P.drop I) (S.drop K) = false) := Lib.hid (HNo.out (.inl (by omega)))
        clear HNo HNext
        rcases hso with ⟨rfl, rfl⟩ | ⟨a, rfl, rfl⟩
        · have HX : Hid (false = N) := Lib.hid (HI.out.1.never HF.out ▸ HN.out)
          have HQ := Lib.hid HI.out.2
          clear hg HI
          go_wp2_with fail
          go_region
          go_wp2_with fail
          go_ret
          exact ⟨by rw [← HX.out]; rfl, HQ.out.drew⟩
        · have HM : Hid (mesM P S (some a) (a + 1) (B + 1) < g' ∧ MatInv P S (a + 1) (B + 1) (some a) (B + 1) ∧ a < P.length) := Lib.hid ⟨by
            have := mes_again P S a I B (by have := (inv_lt HI.out.1).2; omega)
            omega, HI.out.1.again hk HF.out, by have := (inv_lt HI.out.1).1; omega⟩
          have HQ := Lib.hid HI.out.2
          have hal : a < P.length := HM.out.2.2
          have hbl : B < S.length := by have := (inv_lt HI.out.1).2; omega
          have hge : decide (0 ≤ (a : Int)) = true := by simp
          clear hg HI
          go_wp2_with fail
          go_region
          go_wp2_with fail
          go_roundg g'
          case measure => omega
          case rel => exact ⟨a + 1, B + 1, B + 1, some a, HM.out.1, by omega, by omega, by omega, by go_num, by go_num, by go_num, .inr ⟨a, rfl, rfl⟩, Lib.hid ⟨HM.out.2.1, HQ.out.drew⟩⟩
    · have hkd : decide (K < S.length) = false := by simpa using hk
      have hKe : K = S.length := by omega
      have HD : Hid (matL P S = true ↔ matL (P.drop I) [] = true) := Lib.hid (by subst hKe; exact HI.out.1.done)
      have HQ := Lib.hid HI.out.2
      have HKe := Lib.hid hKe
      clear hg HI HNext hKe
      go_wp2_with fail
      go_loopw [5] (fun i wx => ∃ I' : Nat, I' ≤ P.length ∧ i = .int .i64 (I' : Int) ∧ Hid ((matL P S = true ↔ matL (P.drop I') [] = true) ∧ Q w wx)) (fun i _ => P.length - (intOf i).toNat)
      case atStart => exact ⟨I, hI, rfl, Lib.hid ⟨HD.out, HQ.out⟩⟩
      case round =>
        obtain ⟨I', hI', rfl, HI⟩ := hrel
        rename World => wb
        by_cases hi : I' < P.length
        · have hid : decide (I' < P.length) = true := by simpa using hi
          obtain ⟨v, hv⟩ : ∃ v, gB P I' = v := ⟨_, rfl⟩
          by_cases h42 : v = 42
          · subst h42
            have HM : Hid ((matL P S = true ↔ matL (P.drop (I' + 1)) [] = true) ∧ Q w wb) := Lib.hid ⟨HI.out.1.trans ((mat_end hi).trans ⟨fun h => h.2, fun h => ⟨hv, h⟩⟩), HI.out.2⟩
            clear HI HD
            go_wp2_with fail
            go_roundw
            case rel => exact ⟨I' + 1, by omega, by go_num, HM⟩
            case measure => simp [intOf]; omega
          · have h42i : ¬ (v.toNat : Int) = 42 := fun h => h42 (UInt8.toNat_inj.1 (by simpa using (by omega : v.toNat = 42)))
            have g42 : (((v.toNat : Int)) == 42) = false := by simpa using h42i
            have hne : ((I' : Int) == (P.length : Int)) = false := by simp; omega
            have HX : Hid (false = N) := Lib.hid (by
              rw [← HN.out]
              cases hm : matL P S with
              | false => rfl
              | true => exact absurd ((mat_end hi).1 (HI.out.1.1 hm)).1 (by rw [hv]; exact h42))
            have HQ := Lib.hid HI.out.2
            clear HI HD h42
            go_wp2_with fail
            go_ret
            exact ⟨by rw [← HX.out]; rfl, HQ.out⟩
        · have hid : decide (I' < P.length) = false := by simpa using hi
          have hIe : I' = P.length := by omega
          have HX : Hid (true = N) := Lib.hid (by
            rw [← HN.out, HI.out.1.2 (by rw [List.drop_of_length_le (by omega)]; rfl)])
          have HQ := Lib.hid HI.out.2
          clear HI HD
          subst hIe
          go_wp2_with fail
          go_ret
          exact ⟨by rw [← HX.out]; rfl, HQ.out⟩
end Go.Proofs.YtlhhiiemojhjdaaGreatDoor
set_option linter.unusedVariables false
set_option linter.unusedSimpArgs false
namespace Go.Proofs.YtlhhiiemojhjdaaGreatDoor
open Go Go.RowKit
def SB (w : World) (b : Nat) (t : Txt) : Prop := w.heap[b]? = some (.cells #[.string ⟨t.toArray⟩] 9 (0, 0))
theorem SB.q {w w' : World} {b : Nat} {t : Txt} (h : SB w b t) (hq : Q w w') : SB w' b t := hq.block h
theorem SB.c {w : World} {b : Nat} {t : Txt} (h : SB w b t) : w.cell? ⟨b, 0, none⟩ = some (.string ⟨t.toArray⟩) := by rw [cell_of_row _ _ _ _ _ _ h]; rfl
def whoP (user p : Txt) : Bool := p == [42] || (!user.isEmpty && p == user)
set_option maxRecDepth 100000 in
theorem who_any (b : Nat) (user p : Txt) (w : World) (hb : SB w b user) : Calls Tryz.prog 21 #[.string ⟨p.toArray⟩, .pointer (some ⟨b, 0, none⟩)] w fun e w' => e = .returned (.bool (whoP user p)) ∧ Q w w' := by
  have c0 := hb.c
  clear hb
  by_cases h1 : p = [42]
  · subst h1
    have HX : Hid (whoP user [42] = true) := Lib.hid (by unfold whoP; simp)
    go_enter Tryz.func21, Tryz.ntmps21
    go_wp2_with fail
    go_ret
    rw [HX.out]
    exact ⟨rfl, Q.refl w⟩
  · have g1 : (p == [42]) = false := by simpa using h1
    by_cases h2 : user = []
    · subst h2
      have HX : Hid (whoP [] p = false) := Lib.hid (by unfold whoP; rw [g1]; rfl)
      clear h1
      go_enter Tryz.func21, Tryz.ntmps21
      go_wp2_with fail
      go_ret
      rw [HX.out]
      exact ⟨rfl, Q.refl w⟩
    · have g2 : user.isEmpty = false := by simpa using h2
      have HX : Hid (whoP user p = (p == user)) := Lib.hid (by unfold whoP; rw [g1, g2]; rfl)
      clear h1 h2
      go_enter Tryz.func21, Tryz.ntmps21
      go_wp2_with fail
      go_ret
      rw [HX.out]
      exact ⟨rfl, Q.refl w⟩
theorem what_any (b : Nat) (s p : Txt) (w : World) (hb : SB w b s) (hp : p.length ≤ 140737488355328) (hs : s.length ≤ 140737488355328) : Calls Tryz.prog 22 #[.string ⟨p.toArray⟩, .pointer (some ⟨b, 0, none⟩)] w fun e w' => e = .returned (.bool (matL p s)) ∧ Q w w' := by
  have c0 := hb.c
  clear hb
  have HM := Lib.hid (Match_any p s w hp hs)
  go_enter Tryz.func22, Tryz.ntmps22
  go_wp2_with fail
  refine HM.out.mono ?_
  rintro e w' ⟨rfl, hq⟩
  go_wp2_with fail
  go_ret
  exact ⟨rfl, hq⟩
theorem of_any (b : Nat) (s p : Txt) (w : World) (hb : SB w b s) (hp : p.length ≤ 140737488355328) (hs : s.length ≤ 140737488355328) : Calls Tryz.prog 23 #[.string ⟨p.toArray⟩, .pointer (some ⟨b, 0, none⟩)] w fun e w' => e = .returned (.bool (matL p s)) ∧ Q w w' := by
  have c0 := hb.c
  clear hb
  have HM := Lib.hid (Match_any p s w hp hs)
  go_enter Tryz.func23, Tryz.ntmps23
  go_wp2_with fail
  refine HM.out.mono ?_
  rintro e w' ⟨rfl, hq⟩
  go_wp2_with fail
  go_ret
  exact ⟨rfl, hq⟩
def Sh (ns : List Txt) : Prop := ∀ i, i < ns.length → (gL ns i).length ≤ 140737488355328
theorem any_who (b : Nat) (user : Txt) (ns : List Txt) (v : Value) (w : World) (hb : SB w b user) (hv : NsV w v ns) :
    Calls Tryz.prog 24 #[v, .func (.func 21) #[] #[.pointer (some ⟨b, 0, none⟩)]] w fun e w' => e = .returned (.bool (ns.any (whoP user))) ∧ Q w w' :=
  contains_func 21 #[.pointer (some ⟨b, 0, none⟩)] (enters_of Tryz.func21 (by kernel_rfl) rfl) (whoP user) ns v w hv (fun i hi X hX => who_any b user _ X (hb.q hX))
theorem any_what (b : Nat) (s : Txt) (ns : List Txt) (v : Value) (w : World) (hb : SB w b s) (hv : NsV w v ns) (hn : Sh ns) (hs : s.length ≤ 140737488355328) :
    Calls Tryz.prog 24 #[v, .func (.func 22) #[] #[.pointer (some ⟨b, 0, none⟩)]] w fun e w' => e = .returned (.bool (ns.any fun p => matL p s)) ∧ Q w w' :=
  contains_func 22 #[.pointer (some ⟨b, 0, none⟩)] (enters_of Tryz.func22 (by kernel_rfl) rfl) (fun p => matL p s) ns v w hv (fun i hi X hX => what_any b s _ X (hb.q hX) (hn i hi) hs)
theorem any_of (b : Nat) (s : Txt) (ns : List Txt) (v : Value) (w : World) (hb : SB w b s) (hv : NsV w v ns) (hn : Sh ns) (hs : s.length ≤ 140737488355328) :
    Calls Tryz.prog 24 #[v, .func (.func 23) #[] #[.pointer (some ⟨b, 0, none⟩)]] w fun e w' => e = .returned (.bool (ns.any fun p => matL p s)) ∧ Q w w' :=
  contains_func 23 #[.pointer (some ⟨b, 0, none⟩)] (enters_of Tryz.func23 (by kernel_rfl) rfl) (fun p => matL p s) ns v w hv (fun i hi X hX => of_any b s _ X (hb.q hX) (hn i hi) hs)
def stmC (s : StmtD) (va vb vc : Value) : List Value := [.bool s.allow, va, vb, vc]
def StmV (w : World) (s : StmtD) (va vb vc : Value) : Prop := NsV w va s.who ∧ NsV w vb s.acts ∧ NsV w vc s.ress
theorem StmV.q {w w' : World} {s : StmtD} {va vb vc : Value} (h : StmV w s va vb vc) (hq : Q w w') : StmV w' s va vb vc := ⟨h.1.mono (fun _ _ => hq.cell), h.2.1.mono (fun _ _ => hq.cell), h.2.2.mono (fun _ _ => hq.cell)⟩
instance : Inhabited StmtD := ⟨⟨false, [], [], []⟩⟩
def gSt (l : List StmtD) (i : Nat) : StmtD := l.getD i default
theorem gSt_drop (l : List StmtD) (k : Nat) (h : k < l.length) : l.drop k = gSt l k :: l.drop (k + 1) := by
  rw [List.drop_eq_getElem_cons h]; simp [gSt, List.getD, h]
def StsV (w : World) (v : Value) (l : List StmtD) : Prop := ∃ A c, v = .slice A l.length c ∧ l.length ≤ c ∧ c ≤ 9223372036854775807 ∧ ∀ i, i < l.length → ∃ g off va vb vc, A = some ⟨g, off, none⟩ ∧ StmV w (gSt l i) va vb vc ∧
  w.cell? ⟨g, off + i * 4, none⟩ = some (.bool (gSt l i).allow) ∧ w.cell? ⟨g, off + i * 4 + 1, none⟩ = some va ∧ w.cell? ⟨g, off + i * 4 + 2, none⟩ = some vb ∧ w.cell? ⟨g, off + i * 4 + 3, none⟩ = some vc
theorem StsV.q {w w' : World} {v : Value} {l : List StmtD} (h : StsV w v l) (hq : Q w w') : StsV w' v l := by
  obtain ⟨A, c, e, h1, h2, h3⟩ := h
  refine ⟨A, c, e, h1, h2, fun i hi => ?_⟩
  obtain ⟨g, off, va, vb, vc, e2, h4, h5, h6, h7, h8⟩ := h3 i hi
  exact ⟨g, off, va, vb, vc, e2, h4.q hq, hq.cell h5, hq.cell h6, hq.cell h7, hq.cell h8⟩
def ShS (s : StmtD) : Prop := Sh s.acts ∧ Sh s.ress
theorem NsV.slice {w : World} {v : Value} {ns : List Txt} (h : NsV w v ns) : ∃ A c, v = .slice A ns.length c := by
  obtain ⟨A, c, e, _⟩ := h; exact ⟨A, c, e⟩
theorem info_stmt (x y z : Value) (b : Bool) : (Tryz.prog.info? 41).map (·.size) = some (#[Value.bool b, x, y, z] : Array Value).size := by
  have : (Tryz.prog.info? 41).map (·.size) = some 4 := by kernel_rfl
  exact this
end Go.Proofs.YtlhhiiemojhjdaaGreatDoor
