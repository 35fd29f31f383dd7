/- Texts of this proof, laid into one: LaQ, LaR, LaS, LaT, LaU. -/
import Derived.Test.YtlhhiiemojhjdaaDoorMs14
set_option linter.unusedVariables false
set_option linter.unusedSimpArgs false
namespace Go.Proofs.YtlhhiiemojhjdaaDoor
open Go Go.RowKit
def okK (k : Int) (t : Txt) (ns : List Txt) (ks : List JsonD) : Bool :=
  if k = 1 ∨ k = 2 ∨ k = 3 then t.isEmpty && ns.isEmpty && ks.isEmpty
  else if k = 4 then ns.isEmpty && ks.isEmpty
  else if k = 5 then Lib.validD t && ns.isEmpty && ks.isEmpty
  else if k = 6 then t.isEmpty && ns.isEmpty
  else if k = 7 then t.isEmpty && decide (ns.length = ks.length)
  else false
theorem wf_okK (k : Int) (t : Txt) (ns : List Txt) (ks : List JsonD) (d : Nat) (h : ¬ ((k = 6 ∨ k = 7) ∧ d = 0)) : wfJ (.mk k t ns ks) d = (okK k t ns ks && ns.all Lib.validD && wfKs ks (d - 1)) := by
  rw [wfJ, okK]
  by_cases h1 : k = 1 ∨ k = 2 ∨ k = 3
  · rw [if_pos h1, if_pos h1]
    cases ns <;> cases ks <;> simp [wfKs]
  · rw [if_neg h1, if_neg h1]
    by_cases h4 : k = 4
    · rw [if_pos h4, if_pos h4]
      cases ns <;> cases ks <;> simp [wfKs]
    · rw [if_neg h4, if_neg h4]
      by_cases h5 : k = 5
      · rw [if_pos h5, if_pos h5]
        cases ns <;> cases ks <;> simp [wfKs]
      · rw [if_neg h5, if_neg h5]
        by_cases h6 : k = 6
        · have hd : decide (0 < d) = true := by simp; omega
          rw [if_pos h6, if_pos h6, hd]
          cases ns <;> simp
        · rw [if_neg h6, if_neg h6]
          by_cases h7 : k = 7
          · have hd : decide (0 < d) = true := by simp; omega
            rw [if_pos h7, if_pos h7, hd]
            simp [Bool.and_assoc]
          · rw [if_neg h7, if_neg h7]; simp
theorem wf_deep (k : Int) (t : Txt) (ns : List Txt) (ks : List JsonD) (h : k = 6 ∨ k = 7) : wfJ (.mk k t ns ks) 0 = false := by
  rcases h with rfl | rfl <;> simp [wfJ]
def RrP (j : JsonD) (d : Nat) (L : Int) (w : World) (e : Ending) (w' : World) : Prop := Q w w' ∧ ∃ L' : Int, e = .returned (.tuple #[.bool (rtB j d L), .int .i64 L']) ∧ -1 ≤ L' ∧ L' ≤ 8000 ∧ (rtB j d L = true → L' = L - cntJ j)
def RrKids (ks : List JsonD) (d : Nat) (D : Int) : Prop := ∀ i, i < ks.length → ∀ W un uk L, JV W (gK ks i) un uk → 0 ≤ L → L ≤ 8000 → Calls Tryd.prog 87 #[.agg (cellJ (gK ks i) un uk).toArray, .int .i64 (D + 1), .int .i64 L] W (RrP (gK ks i) (d - 1) L W)
def KiS (k : Int) (t : Txt) (ns : List Txt) (ks : List JsonD) (d : Nat) (L : Int) (R2 : Bool) (q : Nat) (o : Bool) (L' : Int) : Prop :=
  (o = true ∧ R2 = true ∧ wfKs (ks.take q) (d - 1) = true ∧ L' = L - 1 - (cntKs (ks.take q) : Int) ∧ 0 ≤ L') ∨ (o = false ∧ rtB (.mk k t ns ks) d L = false)
theorem kis_start {k : Int} {t : Txt} {ns : List Txt} {ks : List JsonD} {d : Nat} {L : Int} {R2 : Bool} (hn : ¬ ((k = 6 ∨ k = 7) ∧ d = 0)) (h2 : R2 = (okK k t ns ks && ns.all Lib.validD)) (hL : 1 ≤ L) : KiS k t ns ks d L R2 0 R2 (L - 1) := by
  cases hr : R2 with
  | true => exact .inl ⟨rfl, rfl, by rw [List.take_zero, wfKs], by rw [List.take_zero, cntKs]; simp, by omega⟩
  | false =>
    refine .inr ⟨rfl, ?_⟩
    unfold rtB
    rw [wf_okK k t ns ks d hn, ← h2, hr]; simp
theorem kis_end {k : Int} {t : Txt} {ns : List Txt} {ks : List JsonD} {d : Nat} {L L' : Int} {R2 : Bool} {q : Nat} {o : Bool} (hn : ¬ ((k = 6 ∨ k = 7) ∧ d = 0)) (h2 : R2 = (okK k t ns ks && ns.all Lib.validD)) (h : KiS k t ns ks d L R2 q o L') (hq : o = true → q = ks.length) :
    o = rtB (.mk k t ns ks) d L ∧ (o = true → L' = L - cntJ (.mk k t ns ks)) := by
  rcases h with ⟨rfl, hr, hw, hl, h0⟩ | ⟨rfl, hr⟩
  · have e := hq rfl
    subst e
    rw [List.take_length] at hw hl
    have hc : (cntJ (.mk k t ns ks) : Int) = (cntKs ks : Int) + 1 := by rw [cntJ]; simp
    refine ⟨?_, fun _ => by omega⟩
    unfold rtB
    rw [wf_okK k t ns ks d hn, ← h2, hr, hw]
    have : decide ((cntJ (.mk k t ns ks) : Int) ≤ L) = true := by simp; omega
    rw [this]; rfl
  · exact ⟨hr.symm, fun h => by cases h⟩
theorem kis_next {k : Int} {t : Txt} {ns : List Txt} {ks : List JsonD} {d : Nat} {L L' L2 : Int} {R2 : Bool} {q : Nat} (hn : ¬ ((k = 6 ∨ k = 7) ∧ d = 0)) (h2 : R2 = (okK k t ns ks && ns.all Lib.validD)) (h : KiS k t ns ks d L R2 q true L') (hq : q < ks.length) (hl2 : rtB (gK ks q) (d - 1) L' = true → L2 = L' - cntJ (gK ks q)) :
    KiS k t ns ks d L R2 (q + 1) (rtB (gK ks q) (d - 1) L') L2 := by
  rcases h with ⟨_, hr, hw, hl, h0⟩ | ⟨h, _⟩
  · have e : cntKs (ks.take (q + 1)) = cntKs (ks.take q) + cntJ (gK ks q) := by rw [gK_take ks q hq, cntKs_app, cntKs, cntKs]; rfl
    cases hb : rtB (gK ks q) (d - 1) L' with
    | true =>
      have hb' := hb
      unfold rtB at hb'
      rw [Bool.and_eq_true, decide_eq_true_eq] at hb'
      refine .inl ⟨rfl, hr, ?_, ?_, ?_⟩
      · rw [gK_take ks q hq, wfKs_app, hw, wfKs, wfKs, hb'.1]; rfl
      · rw [e, hl2 hb]; omega
      · rw [hl2 hb]; omega
    | false =>
      refine .inr ⟨rfl, ?_⟩
      unfold rtB at hb ⊢
      rw [wf_okK k t ns ks d hn]
      have hs := gK_split ks q hq
      have e1 : wfKs ks (d - 1) = (wfKs (ks.take q) (d - 1) && (wfJ (gK ks q) (d - 1) && wfKs (ks.drop (q + 1)) (d - 1))) := by
        conv => lhs; rw [hs]
        rw [wfKs_app, wfKs]
      have e2 : cntKs ks = cntKs (ks.take q) + (cntJ (gK ks q) + cntKs (ks.drop (q + 1))) := by
        conv => lhs; rw [hs]
        rw [cntKs_app, cntKs]
      rw [cntJ]
      simp only [Bool.and_eq_false_iff, decide_eq_false_iff_not] at hb ⊢
      rcases hb with h1 | h1
      · left; right; rw [e1, h1]; simp
      · right; omega
  · cases h
set_option maxRecDepth 100000 in
set_option maxHeartbeats 8000000 in
theorem rright_step (k : Int) (t : Txt) (ns : List Txt) (ks : List JsonD) (d : Nat) (D L : Int) (hD : 20 - (d : Int) = D) (hd : d ≤ 20) (hL0 : 0 ≤ L) (hL : L ≤ 8000) (w : World) (vn vk : Value) (hj : JV w (.mk k t ns ks) vn vk) (hb : bigJ 9223372036854775807 (.mk k t ns ks))
    (IH : (okK k t ns ks = true → ¬ ((k = 6 ∨ k = 7) ∧ d = 0) → RrKids ks d D)) :
    Calls Tryd.prog 87 #[.agg (jsonC k t vn vk).toArray, .int .i64 D, .int .i64 L] w (RrP (.mk k t ns ks) d L w) := by
  obtain ⟨⟨A, c, rfl, hc1, hc2⟩, ⟨B, c', rfl, hc3, hc4⟩⟩ := jv_form hj
  have HJ := Lib.hid hj
  have HIH := Lib.hid IH
  have HB := Lib.hid hb
  have HD := Lib.hid hD
  have hD2 : (0 : Int) ≤ D := by omega
  have hD3 : D ≤ 20 := by omega
  have hrow := heap_alloc_new w (.cells (jsonC k t (.slice A ns.length c) (.slice B ks.length c')).toArray 40)
  obtain ⟨W1, hW1⟩ : ∃ W1, w.alloc (.cells (jsonC k t (.slice A ns.length c) (.slice B ks.length c')).toArray 40) = W1 := ⟨_, rfl⟩
  have hq1 : Q w W1 := by rw [← hW1]; exact (Q.refl w).alloc _
  obtain ⟨jb, hjb⟩ : ∃ jb, w.heap.size = jb := ⟨_, rfl⟩
  rw [hW1, hjb] at hrow
  clear hj IH hb hD
  go_enter Tryd.func87, Tryd.ntmps87
  go_upto_region 1 with (fail)
  have c0 : W1.cell? ⟨jb, 0, none⟩ = some (.int .i64 k) := by rw [cell_of_row _ _ _ _ _ _ hrow]; rfl
  have c1 : W1.cell? ⟨jb, 1, none⟩ = some (.string ⟨t.toArray⟩) := by rw [cell_of_row _ _ _ _ _ _ hrow]; rfl
  have c2 : W1.cell? ⟨jb, 2, none⟩ = some (.slice A ns.length c) := by rw [cell_of_row _ _ _ _ _ _ hrow]; rfl
  have c3 : W1.cell? ⟨jb, 3, none⟩ = some (.slice B ks.length c') := by rw [cell_of_row _ _ _ _ _ _ hrow]; rfl
  have HRow := Lib.hid hrow
  have HQ1 := Lib.hid hq1
  clear hW1 hjb hrow hq1
  have HDeep : Hid (k = 6 ∨ k = 7 → d = 0 → RrP (.mk k t ns ks) d L w (.returned (.tuple #[.bool false, .int .i64 (L - 1)])) W1) := Lib.hid (fun h h0 => by
    subst h0
    have e : rtB (.mk k t ns ks) 0 L = false := by unfold rtB; rw [wf_deep k t ns ks h]; rfl
    exact ⟨HQ1.out, L - 1, by rw [e], by omega, by omega, fun h => by rw [e] at h; cases h⟩)
  have HZero : Hid (L = 0 → RrP (.mk k t ns ks) d L w (.returned (.tuple #[.bool false, .int .i64 (L - 1)])) W1) := Lib.hid (fun h0 => by
    subst h0
    have e : rtB (.mk k t ns ks) d 0 = false := by
      unfold rtB
      have := cnt_pos (.mk k t ns ks)
      have : decide ((cntJ (.mk k t ns ks) : Int) ≤ 0) = false := by simp; omega
      rw [this, Bool.and_false]
    exact ⟨HQ1.out, 0 - 1, by rw [e], by omega, by omega, fun h => by rw [e] at h; cases h⟩)
  have HK : Hid (k = 6 ∨ k = 7 ∨ (k ≠ 6 ∧ k ≠ 7)) := Lib.hid (by omega)
  by_cases h0 : L = 0
  · have g0 : decide (L - 1 < 0) = true := by simp; omega
    have HX := Lib.hid (HZero.out h0)
    clear h0
    rcases HK.out with hk | hk | hk
    case inr.inr =>
      have n6 : (k == 6) = false := by simpa using hk.1
      have n7 : (k == 7) = false := by simpa using hk.2
      clear hk
      go_wp2_with fail
      go_ret2
      exact HX.out
    all_goals
      subst hk
      by_cases hd0 : d = 0
      · have gD : decide ((20 : Int) ≤ D) = true := by have := HD.out; simp; omega
        clear hd0
        go_wp2_with fail
        go_ret2
        exact HX.out
      · have gD : decide ((20 : Int) ≤ D) = false := by have := HD.out; simp; omega
        clear hd0
        go_wp2_with fail
        go_ret2
        exact HX.out
  · have g0 : decide (L - 1 < 0) = false := by simp; omega
    by_cases hdp : (k = 6 ∨ k = 7) ∧ d = 0
    · have HX := Lib.hid (HDeep.out hdp.1 hdp.2)
      have gD : decide ((20 : Int) ≤ D) = true := by have := HD.out; have := hdp.2; simp; omega
      obtain ⟨hk, -⟩ := hdp
      rcases hk with hk | hk
      all_goals
        subst hk
        go_wp2_with fail
        go_ret2
        exact HX.out
    · have HN := Lib.hid hdp
      rcases HK.out with hk | hk | hk
      case' inl =>
        have n6 : (k == 6) = true := by simpa using hk
        have gD : decide ((20 : Int) ≤ D) = false := by have := HD.out; simp; omega
      case' inr.inl =>
        have n6 : (k == 6) = false := by subst hk; rfl
        have n7 : (k == 7) = true := by simpa using hk
        have gD : decide ((20 : Int) ≤ D) = false := by have := HD.out; simp; omega
      case' inr.inr =>
        have n6 : (k == 6) = false := by simpa using hk.1
        have n7 : (k == 7) = false := by simpa using hk.2
      all_goals
        clear hdp hk
        go_upto_region 5 with (fail)
        iterate 10 go_step
        go_cut [8] (fun ok wx => ok = .bool (okK k t ns ks) ∧ Hid (Q W1 wx))
        case first =>
          obtain ⟨bt, hbt⟩ : ∃ bt, List.isEmpty t = bt := ⟨_, rfl⟩
          obtain ⟨bn, hbn⟩ : ∃ bn, ((ns.length : Int) == 0) = bn := ⟨_, rfl⟩
          obtain ⟨bk, hbk⟩ : ∃ bk, ((ks.length : Int) == 0) = bk := ⟨_, rfl⟩
          obtain ⟨bl, hbl⟩ : ∃ bl, ((ns.length : Int) == (ks.length : Int)) = bl := ⟨_, rfl⟩
          have HN0 : Hid (ns.isEmpty = bn) := Lib.hid (by rw [← hbn]; cases ns <;> simp <;> omega)
          have HK0 : Hid (ks.isEmpty = bk) := Lib.hid (by rw [← hbk]; cases ks <;> simp <;> omega)
          have HL0 : Hid (decide (ns.length = ks.length) = bl) := Lib.hid (by
            rw [← hbl]
            by_cases h : ns.length = ks.length
            · rw [h]; simp
            · have : ¬ ((ns.length : Int) = (ks.length : Int)) := by omega
              simp [h, this])
          have hnl : ns.length ≤ 9223372036854775807 := by omega
          have hkl : ks.length ≤ 9223372036854775807 := by omega
          by_cases e1 : k = 1 ∨ k = 2 ∨ k = 3
          · have HO : Hid (okK k t ns ks = (bt && bn && bk)) := Lib.hid (by unfold okK; rw [if_pos e1, hbt, HN0.out, HK0.out])
            clear hbl HL0
            rcases e1 with e | e | e
            all_goals
              subst e
              try exact absurd n6 (by decide)
              try exact absurd n7 (by decide)
              all_goals cases bt <;> cases bn <;> cases bk
              all_goals
                go_wp2_with fail
                go_meet
                exact ⟨by rw [HO.out]; rfl, Lib.hid (Q.refl _)⟩
          · by_cases e4 : k = 4
            · have HO : Hid (okK k t ns ks = (bn && bk)) := Lib.hid (by unfold okK; rw [if_neg e1, if_pos e4, HN0.out, HK0.out])
              clear hbl HL0 hbt e1
              subst e4
              try exact absurd n6 (by decide)
              try exact absurd n7 (by decide)
              all_goals cases bn <;> cases bk
              all_goals
                go_wp2_with fail
                go_meet
                exact ⟨by rw [HO.out]; rfl, Lib.hid (Q.refl _)⟩
            · by_cases e5 : k = 5
              · obtain ⟨bu, hbu⟩ : ∃ bu, Lib.validD t = bu := ⟨_, rfl⟩
                have HO : Hid (okK k t ns ks = (bu && bn && bk)) := Lib.hid (by unfold okK; rw [if_neg e1, if_neg e4, if_pos e5, HN0.out, HK0.out, hbu])
                have htl : t.length ≤ 9223372036854775807 := by have h := HB.out; rw [bigJ] at h; exact h.1
                have hU := rvalid_any t W1 htl
                rw [hbu] at hU
                have HU := Lib.hid hU
                clear hbl HL0 hbt e1 e4 hU hbu
                subst e5
                try exact absurd n6 (by decide)
                try exact absurd n7 (by decide)
                all_goals
                  go_wp2_with fail
                  refine HU.out.mono ?_
                  rintro e wb ⟨rfl, hq2⟩
                  have HQb := Lib.hid hq2
                  have c2 := hq2.cell c2
                  have c3 := hq2.cell c3
                  clear hq2 HU
                  all_goals cases bu <;> cases bn <;> cases bk
                  all_goals
                    go_wp2_with fail
                    go_meet
                    exact ⟨by rw [HO.out]; rfl, HQb⟩
              · by_cases e6 : k = 6
                · have HO : Hid (okK k t ns ks = (bt && bn)) := Lib.hid (by unfold okK; rw [if_neg e1, if_neg e4, if_neg e5, if_pos e6, hbt, HN0.out])
                  clear hbl HL0 hbk HK0 e1 e4 e5
                  subst e6
                  try exact absurd n6 (by decide)
                  try exact absurd n7 (by decide)
                  all_goals cases bt <;> cases bn
                  all_goals
                    go_wp2_with fail
                    go_meet
                    exact ⟨by rw [HO.out]; rfl, Lib.hid (Q.refl _)⟩
                · by_cases e7 : k = 7
                  · have HO : Hid (okK k t ns ks = (bt && bl)) := Lib.hid (by unfold okK; rw [if_neg e1, if_neg e4, if_neg e5, if_neg e6, if_pos e7, hbt, HL0.out])
                    clear hbn HN0 hbk HK0 e1 e4 e5 e6
                    subst e7
                    try exact absurd n6 (by decide)
                    try exact absurd n7 (by decide)
                    all_goals cases bt <;> cases bl
                    all_goals
                      go_wp2_with fail
                      go_meet
                      exact ⟨by rw [HO.out]; rfl, Lib.hid (Q.refl _)⟩
                  · have HO : Hid (okK k t ns ks = false) := Lib.hid (by unfold okK; rw [if_neg e1, if_neg e4, if_neg e5, if_neg e6, if_neg e7])
                    have m1 : (k == 1) = false := by simp; omega
                    have m2 : (k == 2) = false := by simp; omega
                    have m3 : (k == 3) = false := by simp; omega
                    have m4 : (k == 4) = false := by simpa using e4
                    have m5 : (k == 5) = false := by simpa using e5
                    have m6 : (k == 6) = false := by simpa using e6
                    have m7 : (k == 7) = false := by simpa using e7
                    clear hbn hbk hbl hbt e1 e4 e5 e6 e7
                    try exact absurd (m6.symm.trans n6) (by decide)
                    try exact absurd (m7.symm.trans n7) (by decide)
                    all_goals
                      go_wp2_with fail
                      go_meet
                      exact ⟨by rw [HO.out], Lib.hid (Q.refl _)⟩
        case rest =>
          obtain ⟨rfl, HQc⟩ := hcut
          rename World => wc
          obtain ⟨ok, hok⟩ : ∃ ok, okK k t ns ks = ok := ⟨_, rfl⟩
          rw [hok]
          have HOk := Lib.hid hok
          obtain ⟨R2, hR2⟩ : ∃ R2, (ok && ns.all Lib.validD) = R2 := ⟨_, rfl⟩
          have HR2 := Lib.hid hR2
          obtain ⟨A0, c0', hA0, -, -, hns⟩ := NsV.at (show NsV w (.slice A ns.length c) ns by have := HJ.out; rw [JV] at this; exact this.1)
          injection hA0 with e1 _ e2
          subst e1
          subst e2
          have HNs := Lib.hid hns
          have hnl : ns.length ≤ 9223372036854775807 := by omega
          have hkl : ks.length ≤ 9223372036854775807 := by omega
          clear hok hR2 hns c0 c1 n6
          try clear n7
          clear c2 c3
          have c2 := HQc.out.cell (show W1.cell? ⟨jb, 2, none⟩ = some (.slice A ns.length c) by rw [cell_of_row _ _ _ _ _ _ HRow.out]; rfl)
          go_upto_region 20 with (fail)
          clear c2
          go_loopg [8, 10] (ns.length + 1) (fun gk ov i wx => ∃ (q : Nat) (o : Bool), gk = ns.length - q + 1 ∧ q ≤ ns.length ∧ ov = .bool o ∧ i = .int .i64 (q : Int) ∧ Hid (Q W1 wx ∧ (o && (ns.drop q).all Lib.validD) = R2))
          case atStart => exact ⟨0, ok, rfl, by omega, rfl, rfl, Lib.hid ⟨HQc.out, by rw [List.drop_zero]; exact HR2.out⟩⟩
          case round =>
            obtain ⟨q, o, rfl, hq, rfl, rfl, HI⟩ := hrel
            rename World => wa
            have c2 := HI.out.1.cell (show W1.cell? ⟨jb, 2, none⟩ = some (.slice A ns.length c) by rw [cell_of_row _ _ _ _ _ _ HRow.out]; rfl)
            have c3 := HI.out.1.cell (show W1.cell? ⟨jb, 3, none⟩ = some (.slice B ks.length c') by rw [cell_of_row _ _ _ _ _ _ HRow.out]; rfl)
            by_cases hgo : q < ns.length ∧ o = true
            · obtain ⟨hlt, rfl⟩ := hgo
              have hdq : decide (q < ns.length) = true := by simpa using hlt
              obtain ⟨g, off, e1, hcell⟩ := HNs.out q hlt
              subst e1
              have hbx : (gL ns q).length ≤ 9223372036854775807 := by
                have h := HB.out
                rw [bigJ] at h
                refine h.2.1 _ ?_
                unfold gL
                simp [List.getD, hlt]
              obtain ⟨x, hx⟩ : ∃ x, gL ns q = x := ⟨_, rfl⟩
              have hd2 := gL_drop ns q hlt
              rw [hx] at hcell hbx hd2
              have hcw := (HQ1.out.trans HI.out.1).cell hcell
              have HNe : Hid ((Lib.validD x && (ns.drop (q + 1)).all Lib.validD) = R2) := Lib.hid (by
                have h := HI.out.2
                rw [hd2, List.all_cons, Bool.true_and] at h; exact h)
              have HU := Lib.hid (rvalid_any x wa hbx)
              have HQa := Lib.hid HI.out.1
              obtain ⟨o2, ho2⟩ : ∃ o2, Lib.validD x = o2 := ⟨_, rfl⟩
              rw [ho2] at HU HNe
              clear HI hcell hd2 hx ho2 hbx
              go_wp2_with fail
              refine HU.out.mono ?_
              rintro e wb ⟨rfl, hq2⟩
              have HN : Hid (Q W1 wb ∧ (o2 && (ns.drop (q + 1)).all Lib.validD) = R2) := Lib.hid ⟨HQa.out.trans hq2, HNe.out⟩
              clear hq2 HU HQa HNe hcw c2 c3
              go_wp2_with fail
              go_roundg (ns.length - (q + 1) + 1)
              case measure => omega
              case rel => exact ⟨q + 1, o2, rfl, by omega, rfl, by simp, HN⟩
            · have hcs : (q < ns.length ∧ o = false) ∨ ¬ q < ns.length := by
                cases o with
                | true => right; intro h; exact hgo ⟨h, rfl⟩
                | false => by_cases h : q < ns.length; exact .inl ⟨h, rfl⟩; exact .inr h
              have HX : Hid (Q W1 wa ∧ o = R2) := Lib.hid ⟨HI.out.1, by
                have h := HI.out.2
                rcases hcs with ⟨_, rfl⟩ | h2
                · simpa using h
                · rw [List.drop_of_length_le (by omega)] at h; simpa using h⟩
              clear HI hgo
              rcases hcs with ⟨hlt, rfl⟩ | hlt
              case' inl =>
                have hdq : decide (q < ns.length) = true := by simpa using hlt
              case' inr =>
                have hdq : decide (q < ns.length) = false := by simpa using hlt
              all_goals
                clear hlt
                go_upto_region 24 with (fail)
                clear c2 c3 hdq
                go_loopg [2, 8, 11] (ks.length + 1) (fun gk lv ov i wx => ∃ (q : Nat) (o : Bool) (L' : Int), gk = ks.length - q + 1 ∧ q ≤ ks.length ∧ lv = .int .i64 L' ∧ ov = .bool o ∧ i = .int .i64 (q : Int) ∧ -1 ≤ L' ∧ L' ≤ 8000 ∧ Hid (Q W1 wx ∧ KiS k t ns ks d L R2 q o L'))
                case atStart =>
                  refine ⟨0, R2, L - 1, rfl, by omega, rfl, by rw [HX.out.2], rfl, by omega, by omega, Lib.hid ⟨HX.out.1, ?_⟩⟩
                  exact kis_start HN.out (HR2.out ▸ HOk.out ▸ rfl) (by omega)
                case round =>
                  obtain ⟨q, o, L', rfl, hq, rfl, rfl, rfl, hl1, hl2, HI⟩ := hrel
                  rename World => wa
                  have c3 := HI.out.1.cell (show W1.cell? ⟨jb, 3, none⟩ = some (.slice B ks.length c') by rw [cell_of_row _ _ _ _ _ _ HRow.out]; rfl)
                  have HRe : Hid (R2 = (okK k t ns ks && ns.all Lib.validD)) := Lib.hid (by rw [← HR2.out, HOk.out])
                  by_cases hgo : q < ks.length ∧ o = true
                  · obtain ⟨hlt, rfl⟩ := hgo
                    have hdq : decide (q < ks.length) = true := by simpa using hlt
                    obtain ⟨B0, c0, e0, _, _, hkid⟩ := HJ.out.kid
                    obtain ⟨g, off, vn', vk', e1, y0, y1, y2, y3, yv⟩ := hkid q hlt
                    subst e1
                    injection e0 with e2 _ e3
                    subst e2
                    have hqa := HQ1.out.trans HI.out.1
                    have hki := HI.out.2
                    have hL0' : 0 ≤ L' := by
                      rcases hki with ⟨_, _, _, _, h⟩ | ⟨h, _⟩
                      · exact h
                      · cases h
                    have hokt : okK k t ns ks = true := by
                      rcases hki with ⟨_, h, _, _, _⟩ | ⟨h, _⟩
                      · rw [HRe.out, Bool.and_eq_true] at h; exact h.1
                      · cases h
                    have HRg : Hid (wa.rangeAt g (off + q * 4) (cellJ (gK ks q) vn' vk')) := Lib.hid (fun j u hu => by
                      match j, hu with
                      | 0, hu => injection hu with hu; subst hu; exact hqa.cell y0
                      | 1, hu => injection hu with hu; subst hu; exact hqa.cell y1
                      | 2, hu => injection hu with hu; subst hu; exact hqa.cell y2
                      | 3, hu => injection hu with hu; subst hu; exact hqa.cell y3
                      | n + 4, hu => simp [cellJ, jsonC] at hu)
                    have HKid := Lib.hid (HIH.out hokt HN.out q hlt wa vn' vk' L' (yv.q hqa) hL0' hl2)
                    have HIn : Hid ((Tryd.prog.info? 40).map (·.size) = some (cellJ (gK ks q) vn' vk').length) := Lib.hid (info_sz (gK ks q) vn' vk')
                    have HKi := Lib.hid (kis_next (L2 := L' - cntJ (gK ks q)) HN.out HRe.out hki hlt (fun _ => rfl))
                    have HKn : Hid (∀ L2, (rtB (gK ks q) (d - 1) L' = true → L2 = L' - cntJ (gK ks q)) → KiS k t ns ks d L R2 (q + 1) (rtB (gK ks q) (d - 1) L') L2) := Lib.hid (fun L2 h => kis_next HN.out HRe.out hki hlt h)
                    have HQa := Lib.hid HI.out.1
                    clear y0 y1 y2 y3 yv hqa hkid e3 hki hokt HI HKi
                    go_wp2_with (refine wpList_load_mid rfl 40 (.tmp 137) rfl g (off + q * 4) rfl (cellJ (gK ks q) vn' vk') _ HRg.out Tryd.underlying40 rfl HIn.out ?_; simp only [Act.put, List.setIfInBounds_toArray, List.set_cons_succ, List.set_cons_zero])
                    refine HKid.out.mono ?_
                    rintro e wb ⟨hq2, L2, rfl, hb1, hb2, hb3⟩
                    obtain ⟨o2, ho2⟩ : ∃ o2, rtB (gK ks q) (d - 1) L' = o2 := ⟨_, rfl⟩
                    have HNx : Hid (Q W1 wb ∧ KiS k t ns ks d L R2 (q + 1) o2 L2) := Lib.hid ⟨HQa.out.trans hq2, by rw [← ho2]; exact HKn.out L2 hb3⟩
                    rw [ho2]
                    clear hq2 HQa HKn hb3 ho2 HKid HRg HIn c3
                    go_wp2_with fail
                    go_roundg (ks.length - (q + 1) + 1)
                    case measure => omega
                    case rel => exact ⟨q + 1, o2, L2, rfl, by omega, rfl, rfl, by simp, hb1, hb2, HNx⟩
                  · have hcs : (q < ks.length ∧ o = false) ∨ ¬ q < ks.length := by
                      cases o with
                      | true => right; intro h; exact hgo ⟨h, rfl⟩
                      | false => by_cases h : q < ks.length; exact .inl ⟨h, rfl⟩; exact .inr h
                    have he := kis_end HN.out HRe.out HI.out.2 (fun ho => by
                      rcases hcs with ⟨_, h⟩ | h
                      · rw [ho] at h; cases h
                      · omega)
                    have HX : Hid (RrP (.mk k t ns ks) d L w (.returned (.tuple #[.bool o, .int .i64 L'])) wa) := Lib.hid ⟨HQ1.out.trans HI.out.1, L', by rw [← he.1], hl1, hl2, fun h => he.2 (he.1.trans h)⟩
                    clear HI hgo he
                    rcases hcs with ⟨hlt, rfl⟩ | hlt
                    case' inl =>
                      have hdq : decide (q < ks.length) = true := by simpa using hlt
                    case' inr =>
                      have hdq : decide (q < ks.length) = false := by simpa using hlt
                    all_goals
                      clear hlt
                      go_wp2_with fail
                      go_ret2
                      exact HX.out
end Go.Proofs.YtlhhiiemojhjdaaDoor
set_option linter.unusedVariables false
set_option linter.unusedSimpArgs false
namespace Go.Proofs.YtlhhiiemojhjdaaDoor
open Go Go.RowKit
theorem rright_all : ∀ (n : Nat) (j : JsonD), cntJ j ≤ n → ∀ (d : Nat), d ≤ 20 → ∀ (L : Int) (w : World) (vn vk : Value), JV w j vn vk → bigJ 9223372036854775807 j → 0 ≤ L → L ≤ 8000 →
    Calls Tryd.prog 87 #[.agg (cellJ j vn vk).toArray, .int .i64 (20 - (d : Int)), .int .i64 L] w (RrP j d L w)
  | 0, j, hn, _, _, _, _, _, _, _, _, _, _ => absurd hn (by have := cnt_pos j; omega)
  | n + 1, .mk k t ns ks, hn, d, hd, L, w, vn, vk, hj, hb, h0, h8 => by
    rw [cntJ] at hn
    refine rright_step k t ns ks d (20 - (d : Int)) L rfl hd h0 h8 w vn vk hj hb (fun hok hdp i hi W un uk L' hv h1 h2 => ?_)
    have hc := cnt_gK hi
    have hbk : bigJ 9223372036854775807 (gK ks i) := by
      have h := hb
      rw [bigJ] at h
      exact bigKs_gK h.2.2 hi
    cases d with
    | zero =>
      exfalso
      have h67 : ¬ (k = 6 ∨ k = 7) := fun h => hdp ⟨h, rfl⟩
      unfold okK at hok
      have hk : ks = [] := by
        split at hok
        · simp at hok; exact hok.2
        · split at hok
          · simp at hok; exact hok.2
          · split at hok
            · simp at hok; exact hok.2
            · split at hok
              · rename_i h; exact absurd (.inl h) h67
              · split at hok
                · rename_i h; exact absurd (.inr h) h67
                · cases hok
      rw [hk] at hi; simp at hi
    | succ d' =>
      have := rright_all n (gK ks i) (by omega) d' (by omega) L' W un uk hv hbk h1 h2
      rw [show (20 : Int) - ((d' : Nat) : Int) = 20 - ((d' + 1 : Nat) : Int) + 1 by omega] at this
      exact this
set_option maxRecDepth 100000 in
theorem rRight_any (j : JsonD) (w : World) (vn vk : Value) (hj : JV w j vn vk) (hb : bigJ 9223372036854775807 j) :
    Calls Tryd.prog 55 #[.agg (cellJ j vn vk).toArray] w fun e w' => e = .returned (.bool (rtB j 20 8000)) ∧ Q w w' := by
  have hcall := Lib.hid (fun W (hq : Q w W) => rright_all (cntJ j) j (Nat.le_refl _) 20 (by omega) 8000 W vn vk (hj.q hq) hb (by omega) (by omega))
  obtain ⟨⟨A, n, c, rfl⟩, ⟨B, m, c', rfl⟩⟩ := jv_slices hj
  obtain ⟨o, ho⟩ : ∃ o, rtB j 20 8000 = o := ⟨_, rfl⟩
  have HO := Lib.hid ho
  rw [ho]
  clear ho hj hb
  have HSz := Lib.hid (info_sz j (.slice A n c) (.slice B m c'))
  have HRow := Lib.hid (heap_alloc_new w (.cells (cellJ j (.slice A n c) (.slice B m c')).toArray 40))
  go_enter Tryd.func55, Tryd.ntmps55
  go_wp2_with (refine wpList_load_row rfl 40 (.tmp 1) rfl w.heap.size rfl 40 (cellJ j (.slice A n c) (.slice B m c')).toArray (0, 0) _ HRow.out Tryd.underlying40 rfl HSz.out ?_)
  refine (hcall.out _ ((Q.refl w).alloc _)).mono ?_
  rintro e w1 ⟨hq1, L', rfl, -, -, -⟩
  have HQ1 := Lib.hid (((Q.refl w).alloc _).trans hq1)
  rw [HO.out]
  clear hq1
  go_wp2_with fail
  go_ret
  exact ⟨rfl, HQ1.out⟩
end Go.Proofs.YtlhhiiemojhjdaaDoor
set_option linter.unusedVariables false
set_option linter.unusedSimpArgs false
namespace Go.Proofs.YtlhhiiemojhjdaaDoor
open Go Go.RowKit
theorem wpQuiet_load_mid {P : Program} {ops : Array Oper} {C : World → Prop} {K : Act → Prop} {rest : List Oper} {o : Oper} {a : Act} (hgd : o.guard = none) (ty : TypeId) (x : Operand) (ho : o.op = .load ty x)
    (b q : Nat) (hx : a.eval x = .pointer (some ⟨b, q, none⟩)) (cs : List Value) (d : TypeDesc) (hS : ∀ w, C w → w.rangeAt b q cs)
    (hu : P.underlying ty = some d) (hd : d.isRow = true) (hi : (P.info? ty).map (·.size) = some cs.length)
    (h : wpQuiet P ops C K rest (a.put o.dst (.agg cs.toArray))) : wpQuiet P ops C K (o :: rest) a := by
  have hw : Region.wanted o (yielded ops a.tmps) = true := by simp [Region.wanted, hgd]
  unfold wpQuiet
  rw [if_pos hw]
  refine ⟨_, fun w hC => ?_, h⟩
  unfold Oper.quietAt execOp
  simp only [ho, hx, Instr.loadAt, Instr.sureAddr, Sem.run_bind, Sem.run_pure, Result.andThen_ok, run_loadVar_mid w b q ty cs d (hS w hC) hu hd hi]
  exact ⟨rfl, rfl⟩
def AlKids (ks ms : List JsonD) : Prop := ∀ i, i < ks.length → ∀ W vn vk un uk, JV W (gK ks i) vn vk → JV W (gK ms i) un uk → Calls Tryd.prog 56 #[.agg (cellJ (gK ks i) vn vk).toArray, .agg (cellJ (gK ms i) un uk).toArray] W fun e w' => e = .returned (.bool (eqJ (gK ks i) (gK ms i))) ∧ Q W w'
set_option maxRecDepth 100000 in
set_option maxHeartbeats 4000000 in
theorem ralike_step (k k' : Int) (t t' : Txt) (ns ns' : List Txt) (ks ks' : List JsonD) (w : World) (vn vk un uk : Value) (hj : JV w (.mk k t ns ks) vn vk) (hj' : JV w (.mk k' t' ns' ks') un uk) (IH : AlKids ks ks') :
    Calls Tryd.prog 56 #[.agg (jsonC k t vn vk).toArray, .agg (jsonC k' t' un uk).toArray] w fun e w' => e = .returned (.bool (eqJ (.mk k t ns ks) (.mk k' t' ns' ks'))) ∧ Q w w' := by
  obtain ⟨⟨A, c, rfl, hc1, hc2⟩, ⟨B, d, rfl, hc3, hc4⟩⟩ := jv_form hj
  obtain ⟨⟨A', c', rfl, hc5, hc6⟩, ⟨B', d', rfl, hc7, hc8⟩⟩ := jv_form hj'
  obtain ⟨R, hR⟩ : ∃ R, eqJ (.mk k t ns ks) (.mk k' t' ns' ks') = R := ⟨_, rfl⟩
  rw [hR]
  have HR : Hid ((decide (k = k') && ((t == t') && ((ns == ns') && eqKs ks ks'))) = R) := Lib.hid (by rw [← hR, eqJ])
  have HJ := Lib.hid hj
  have HJ' := Lib.hid hj'
  have HIH := Lib.hid IH
  have hnl : ns.length ≤ 9223372036854775807 := by omega
  have hkl : ks.length ≤ 9223372036854775807 := by omega
  have hnl' : ns'.length ≤ 9223372036854775807 := by omega
  have hkl' : ks'.length ≤ 9223372036854775807 := by omega
  clear hj hj' IH hR
  go_enter Tryd.func56, Tryd.ntmps56
  go_upto_region 1 with (fail)
  obtain ⟨W1, hW1⟩ : ∃ W1, w.alloc (.cells (jsonC k t (.slice A ns.length c) (.slice B ks.length d)).toArray 40) = W1 := ⟨_, rfl⟩
  have hr1 : W1.heap[w.heap.size]? = some (.cells (jsonC k t (.slice A ns.length c) (.slice B ks.length d)).toArray 40 (0, 0)) := by rw [← hW1]; exact heap_alloc_new w _
  have hq1 : Q w W1 := by rw [← hW1]; exact (Q.refl w).alloc _
  rw [hW1]
  obtain ⟨W2, hW2⟩ : ∃ W2, W1.alloc (.cells (jsonC k' t' (.slice A' ns'.length c') (.slice B' ks'.length d')).toArray 40) = W2 := ⟨_, rfl⟩
  have hs1 : W1.heap.size = w.heap.size + 1 := by rw [← hW1]; simp
  have hr2 : W2.heap[w.heap.size + 1]? = some (.cells (jsonC k' t' (.slice A' ns'.length c') (.slice B' ks'.length d')).toArray 40 (0, 0)) := by rw [← hW2, ← hs1]; exact heap_alloc_new W1 _
  have hq2 : Q W1 W2 := by rw [← hW2]; exact (Q.refl W1).alloc _
  have hr1 := hq2.block hr1
  rw [hW2]
  obtain ⟨j1, hj1⟩ : ∃ j1, w.heap.size = j1 := ⟨_, rfl⟩
  rw [hj1] at hr1 hr2 ⊢
  obtain ⟨j2, hj2⟩ : ∃ j2, j1 + 1 = j2 := ⟨_, rfl⟩
  rw [hj2] at hr2 ⊢
  have HQ2 := Lib.hid (hq1.trans hq2)
  have HR1 := Lib.hid hr1
  have HR2 := Lib.hid hr2
  have x0 : W2.cell? ⟨j1, 0, none⟩ = some (.int .i64 k) := by rw [cell_of_row _ _ _ _ _ _ hr1]; rfl
  have x1 : W2.cell? ⟨j1, 1, none⟩ = some (.string ⟨t.toArray⟩) := by rw [cell_of_row _ _ _ _ _ _ hr1]; rfl
  have x2 : W2.cell? ⟨j1, 2, none⟩ = some (.slice A ns.length c) := by rw [cell_of_row _ _ _ _ _ _ hr1]; rfl
  have x3 : W2.cell? ⟨j1, 3, none⟩ = some (.slice B ks.length d) := by rw [cell_of_row _ _ _ _ _ _ hr1]; rfl
  have y0 : W2.cell? ⟨j2, 0, none⟩ = some (.int .i64 k') := by rw [cell_of_row _ _ _ _ _ _ hr2]; rfl
  have y1 : W2.cell? ⟨j2, 1, none⟩ = some (.string ⟨t'.toArray⟩) := by rw [cell_of_row _ _ _ _ _ _ hr2]; rfl
  have y2 : W2.cell? ⟨j2, 2, none⟩ = some (.slice A' ns'.length c') := by rw [cell_of_row _ _ _ _ _ _ hr2]; rfl
  have y3 : W2.cell? ⟨j2, 3, none⟩ = some (.slice B' ks'.length d') := by rw [cell_of_row _ _ _ _ _ _ hr2]; rfl
  clear hW1 hW2 hs1 hr1 hr2 hq1 hq2 hj1 hj2
  by_cases hne : k = k' ∧ t = t' ∧ ns.length = ns'.length ∧ ks.length = ks'.length
  rotate_left
  · have HX : Hid (R = false) := Lib.hid (by
      rw [← HR.out, Bool.eq_false_iff]
      intro h
      simp only [Bool.and_eq_true, decide_eq_true_eq, beq_iff_eq] at h
      obtain ⟨h1, h2, h3, h4⟩ := h
      exact hne ⟨h1, h2, by rw [h3], by rw [(eqKs_iff _ _).1 h4]⟩)
    have hcs : k ≠ k' ∨ (k = k' ∧ t ≠ t') ∨ (k = k' ∧ t = t' ∧ ns.length ≠ ns'.length) ∨ (k = k' ∧ t = t' ∧ ns.length = ns'.length ∧ ks.length ≠ ks'.length) := by
      by_cases h1 : k = k'
      · by_cases h2 : t = t'
        · by_cases h3 : ns.length = ns'.length
          · by_cases h4 : ks.length = ks'.length
            · exact absurd ⟨h1, h2, h3, h4⟩ hne
            · exact .inr (.inr (.inr ⟨h1, h2, h3, h4⟩))
          · exact .inr (.inr (.inl ⟨h1, h2, h3⟩))
        · exact .inr (.inl ⟨h1, h2⟩)
      · exact .inl h1
    clear hne HR
    rcases hcs with h1 | ⟨h1, h2⟩ | ⟨h1, h2, h3⟩ | ⟨h1, h2, h3, h4⟩
    case' inl =>
      have m1 : (k != k') = true := by simpa using h1
      clear h1
    case' inr.inl =>
      have m1 : (k != k') = false := by simpa using h1
      have m2 : (t != t') = true := by simpa using h2
      have m2' : (t == t') = false := by simpa using h2
      clear h1 h2
    case' inr.inr.inl =>
      have m1 : (k != k') = false := by simpa using h1
      have m2 : (t != t') = false := by simpa using h2
      have m2' : (t == t') = true := by simpa using h2
      have m3 : ((ns.length : Int) != (ns'.length : Int)) = true := by simp; omega
      clear h1 h2 h3
    case' inr.inr.inr =>
      have m1 : (k != k') = false := by simpa using h1
      have m2 : (t != t') = false := by simpa using h2
      have m2' : (t == t') = true := by simpa using h2
      have m3 : ((ns.length : Int) != (ns'.length : Int)) = false := by simp; omega
      have m4 : ((ks.length : Int) != (ks'.length : Int)) = true := by simp; omega
      clear h1 h2 h3 h4
    all_goals
      go_wp2_with fail
      go_ret
      exact ⟨by rw [HX.out]; rfl, HQ2.out⟩
  · obtain ⟨h1, h2, h3, h4⟩ := hne
    have m1 : (k != k') = false := by simpa using h1
    have m2 : (t != t') = false := by simpa using h2
    have m2' : (t == t') = true := by simpa using h2
    have m3 : ((ns.length : Int) != (ns'.length : Int)) = false := by simp; omega
    have m4 : ((ks.length : Int) != (ks'.length : Int)) = false := by simp; omega
    have HR3 : Hid (((ns == ns') && eqKs ks ks') = R) := Lib.hid (by rw [← HR.out, h1, h2]; simp)
    have H3 := Lib.hid h3
    have H4 := Lib.hid h4
    clear h1 h2 h3 h4 HR
    go_upto_region 4 with (fail)
    clear x0 x1 y0 y1 m1 m2 m2' m3 m4 x2 x3 y2 y3
    have HNs := Lib.hid (NsV.at (show NsV w (.slice A ns.length c) ns by have h := HJ.out; rw [JV] at h; exact h.1))
    have HNs' := Lib.hid (NsV.at (show NsV w (.slice A' ns'.length c') ns' by have h := HJ'.out; rw [JV] at h; exact h.1))
    have HX2 : Hid (∀ W, Q W2 W → W.cell? ⟨j1, 2, none⟩ = some (.slice A ns.length c) ∧ W.cell? ⟨j1, 3, none⟩ = some (.slice B ks.length d) ∧ W.cell? ⟨j2, 2, none⟩ = some (.slice A' ns'.length c') ∧ W.cell? ⟨j2, 3, none⟩ = some (.slice B' ks'.length d')) := Lib.hid (fun W h => by
      have h1 := h.block HR1.out
      have h2 := h.block HR2.out
      exact ⟨by rw [cell_of_row _ _ _ _ _ _ h1]; rfl, by rw [cell_of_row _ _ _ _ _ _ h1]; rfl, by rw [cell_of_row _ _ _ _ _ _ h2]; rfl, by rw [cell_of_row _ _ _ _ _ _ h2]; rfl⟩)
    go_loopg [5] (ns.length + 1) (fun gk i wx => ∃ q : Nat, gk = ns.length - q + 1 ∧ q ≤ ns.length ∧ i = .int .i64 (q : Int) ∧ Hid (Q W2 wx ∧ ns.take q = ns'.take q))
    case atStart => exact ⟨0, rfl, by omega, rfl, Lib.hid ⟨Q.refl W2, rfl⟩⟩
    case round =>
      obtain ⟨q, rfl, hq, rfl, HI⟩ := hrel
      rename World => wa
      obtain ⟨x2, x3, y2, y3⟩ := HX2.out wa HI.out.1
      by_cases hlt : q < ns.length
      · have hdq : decide (q < ns.length) = true := by simpa using hlt
        have hlt' : q < ns'.length := by have := H3.out; omega
        have hdq' : decide (q < ns'.length) = true := by simpa using hlt'
        obtain ⟨A1, c1, e1, -, -, hns⟩ := HNs.out
        obtain ⟨A2, c2, e2, -, -, hns'⟩ := HNs'.out
        injection e1 with e1 _ e3
        injection e2 with e2 _ e4
        subst e1
        subst e2
        obtain ⟨g, off, e5, ha⟩ := hns q hlt
        obtain ⟨g', off', e6, hb⟩ := hns' q hlt'
        subst e5
        subst e6
        obtain ⟨x, hx⟩ : ∃ x, gL ns q = x := ⟨_, rfl⟩
        obtain ⟨y, hy⟩ : ∃ y, gL ns' q = y := ⟨_, rfl⟩
        rw [hx] at ha
        rw [hy] at hb
        have HT1 : Hid (ns.take (q + 1) = ns.take q ++ [x]) := Lib.hid (by rw [← hx, List.take_add_one, List.getElem?_eq_getElem hlt]; simp [gL, List.getD, hlt])
        have HT2 : Hid (ns'.take (q + 1) = ns'.take q ++ [y]) := Lib.hid (by rw [← hy, List.take_add_one, List.getElem?_eq_getElem hlt']; simp [gL, List.getD, hlt'])
        have HXY : Hid (x ≠ y → R = false) := Lib.hid (fun h => by
          rw [← HR3.out, Bool.eq_false_iff]
          intro h2
          simp only [Bool.and_eq_true, beq_iff_eq] at h2
          exact h (by rw [← hx, ← hy, h2.1]))
        go_upto_region 6 with (fail)
        have k2 : ∀ mm : QW wa, mm.val.cell? ⟨j1, 2, none⟩ = some (.slice (some ⟨g, off, none⟩) ns.length c) := fun mm => mm.cell x2
        have k3 : ∀ mm : QW wa, mm.val.cell? ⟨j2, 2, none⟩ = some (.slice (some ⟨g', off', none⟩) ns'.length c') := fun mm => mm.cell y2
        have ca : ∀ mm : QW wa, mm.val.cell? ⟨g, off + q, none⟩ = some (.string ⟨x.toArray⟩) := fun mm => mm.cell ((HQ2.out.trans HI.out.1).cell ha)
        have cb : ∀ mm : QW wa, mm.val.cell? ⟨g', off' + q, none⟩ = some (.string ⟨y.toArray⟩) := fun mm => mm.cell ((HQ2.out.trans HI.out.1).cell hb)
        clear x2 x3 y2 y3 ha hb hns hns' hx hy e3 e4
        by_cases hxy : x = y
        case' pos =>
          have n1 : (x != y) = false := by simpa using hxy
          have n2 : (x == y) = true := by simpa using hxy
        case' neg =>
          have n1 : (x != y) = true := by simpa using hxy
          have n2 : (x == y) = false := by simpa using hxy
        all_goals
          refine wp_region_q (by kernel_rfl) (by kernel_rfl) ?_
          (repeat (go_big_quiet_step (fail)))
          refine wpQuiet_nil ?_
          rintro wb ⟨mb, hmb⟩
          have HQb : Hid (Q W2 wb) := Lib.hid (HI.out.1.trans (by rw [hmb]; exact mb.le))
          clear mb hmb k2 k3 ca cb
        · have HX := Lib.hid (HXY.out hxy)
          clear HI hxy HXY
          go_wp2_with fail
          go_ret
          exact ⟨by rw [HX.out]; rfl, HQ2.out.trans HQb.out⟩
        · have HN : Hid (Q W2 wb ∧ ns.take (q + 1) = ns'.take (q + 1)) := Lib.hid ⟨HQb.out, by rw [HT1.out, HT2.out, HI.out.2, hxy]⟩
          clear HI hxy
          go_wp2_with fail
          go_roundg (ns.length - (q + 1) + 1)
          case measure => omega
          case rel => exact ⟨q + 1, rfl, by omega, by simp, HN⟩
      · have hdq : decide (q < ns.length) = false := by simpa using hlt
        have HX : Hid (Q W2 wa ∧ eqKs ks ks' = R) := Lib.hid ⟨HI.out.1, by
          have h := HI.out.2
          rw [List.take_of_length_le (by omega), List.take_of_length_le (by have := H3.out; omega)] at h
          rw [← HR3.out, h]; simp⟩
        clear HI hlt
        go_upto_region 9 with (fail)
        clear x2 x3 y2 y3 hdq
        go_loopg [6] (ks.length + 1) (fun gk i wx => ∃ q : Nat, gk = ks.length - q + 1 ∧ q ≤ ks.length ∧ i = .int .i64 (q : Int) ∧ Hid (Q W2 wx ∧ ks.take q = ks'.take q))
        case atStart => exact ⟨0, rfl, by omega, rfl, Lib.hid ⟨HX.out.1, rfl⟩⟩
        case round =>
          obtain ⟨q, rfl, hq, rfl, HI⟩ := hrel
          rename World => wa
          obtain ⟨x2, x3, y2, y3⟩ := HX2.out wa HI.out.1
          by_cases hlt : q < ks.length
          · have hdq : decide (q < ks.length) = true := by simpa using hlt
            have hlt' : q < ks'.length := by have := H4.out; omega
            have hdq' : decide (q < ks'.length) = true := by simpa using hlt'
            obtain ⟨B1, d1, e1, -, -, hks⟩ := HJ.out.kid
            obtain ⟨B2, d2, e2, -, -, hks'⟩ := HJ'.out.kid
            injection e1 with e1 _ e3
            injection e2 with e2 _ e4
            subst e1
            subst e2
            obtain ⟨g, off, v1, v2, e5, a0, a1, a2, a3, av⟩ := hks q hlt
            obtain ⟨g', off', u1, u2, e6, b0, b1, b2, b3, bv⟩ := hks' q hlt'
            subst e5
            subst e6
            have hqa := HQ2.out.trans HI.out.1
            have HCl := Lib.hid (fun mm : QW wa => HIH.out q hlt mm.val v1 v2 u1 u2 (av.q (hqa.trans mm.le)) (bv.q (hqa.trans mm.le)))
            have HEq : Hid (eqJ (gK ks q) (gK ks' q) = false → R = false) := Lib.hid (fun h => by rw [← HX.out.2]; exact eqKs_no h)
            have HEt : Hid (eqJ (gK ks q) (gK ks' q) = true → ks.take (q + 1) = ks'.take (q + 1)) := Lib.hid (fun h => eqKs_take H4.out hlt HI.out.2 h)
            obtain ⟨o, ho⟩ : ∃ o, eqJ (gK ks q) (gK ks' q) = o := ⟨_, rfl⟩
            rw [ho] at HCl HEq HEt
            have HRg : Hid (∀ W, Q wa W → W.rangeAt g (off + q * 4) (cellJ (gK ks q) v1 v2)) := Lib.hid (fun W hW j u hu => by
              match j, hu with
              | 0, hu => injection hu with hu; subst hu; exact hW.cell (hqa.cell a0)
              | 1, hu => injection hu with hu; subst hu; exact hW.cell (hqa.cell a1)
              | 2, hu => injection hu with hu; subst hu; exact hW.cell (hqa.cell a2)
              | 3, hu => injection hu with hu; subst hu; exact hW.cell (hqa.cell a3)
              | n + 4, hu => simp [cellJ, jsonC] at hu)
            have k2 : ∀ mm : QW wa, mm.val.cell? ⟨j1, 3, none⟩ = some (.slice (some ⟨g, off, none⟩) ks.length d) := fun mm => mm.cell x3
            have k3 : ∀ mm : QW wa, mm.val.cell? ⟨j2, 3, none⟩ = some (.slice (some ⟨g', off', none⟩) ks'.length d') := fun mm => mm.cell y3
            have HRg' : Hid (∀ W, Q wa W → W.rangeAt g' (off' + q * 4) (cellJ (gK ks' q) u1 u2)) := Lib.hid (fun W hW j u hu => by
              match j, hu with
              | 0, hu => injection hu with hu; subst hu; exact hW.cell (hqa.cell b0)
              | 1, hu => injection hu with hu; subst hu; exact hW.cell (hqa.cell b1)
              | 2, hu => injection hu with hu; subst hu; exact hW.cell (hqa.cell b2)
              | 3, hu => injection hu with hu; subst hu; exact hW.cell (hqa.cell b3)
              | n + 4, hu => simp [cellJ, jsonC] at hu)
            have HIn1 : Hid ((Tryd.prog.info? 40).map (·.size) = some (cellJ (gK ks q) v1 v2).length) := Lib.hid (info_sz (gK ks q) v1 v2)
            have HIn2 : Hid ((Tryd.prog.info? 40).map (·.size) = some (cellJ (gK ks' q) u1 u2).length) := Lib.hid (info_sz (gK ks' q) u1 u2)
            go_upto_region 11 with (fail)
            clear x2 x3 y2 y3 a0 a1 a2 a3 av b0 b1 b2 b3 bv hks hks' ho e3 e4
            refine wp_region_q (by kernel_rfl) (by kernel_rfl) ?_
            iterate 4 (go_big_quiet_step (fail))
            refine wpQuiet_load_mid rfl 40 (.tmp 66) rfl g (off + q * 4) rfl (cellJ (gK ks q) v1 v2) _ (fun W hW => by obtain ⟨m, rfl⟩ := hW; exact HRg.out _ m.le) Tryd.underlying40 rfl HIn1.out ?_
            simp only [Act.put, List.setIfInBounds_toArray, List.set_cons_succ, List.set_cons_zero]
            iterate 4 (go_big_quiet_step (fail))
            refine wpQuiet_load_mid rfl 40 (.tmp 71) rfl g' (off' + q * 4) rfl (cellJ (gK ks' q) u1 u2) _ (fun W hW => by obtain ⟨m, rfl⟩ := hW; exact HRg'.out _ m.le) Tryd.underlying40 rfl HIn2.out ?_
            simp only [Act.put, List.setIfInBounds_toArray, List.set_cons_succ, List.set_cons_zero]
            (repeat (go_big_quiet_step (first | (go_at_call 56; with_reducible exact calls_q (HCl.out _)))))
            refine wpQuiet_nil ?_
            rintro wb ⟨mb, hmb⟩
            have HQb : Hid (Q W2 wb) := Lib.hid (HI.out.1.trans (by rw [hmb]; exact mb.le))
            clear mb hmb k2 k3 HCl HRg HRg' HIn1 HIn2
            cases o with
            | true =>
              have HN : Hid (Q W2 wb ∧ ks.take (q + 1) = ks'.take (q + 1)) := Lib.hid ⟨HQb.out, HEt.out rfl⟩
              clear HI HEq HEt
              go_wp2_with fail
              go_roundg (ks.length - (q + 1) + 1)
              case measure => omega
              case rel => exact ⟨q + 1, rfl, by omega, by simp, HN⟩
            | false =>
              have HZ := Lib.hid (HEq.out rfl)
              clear HI HEq HEt
              go_wp2_with fail
              go_ret
              exact ⟨by rw [HZ.out]; rfl, HQ2.out.trans HQb.out⟩
          · have hdq : decide (q < ks.length) = false := by simpa using hlt
            have HY : Hid (Q W2 wa ∧ R = true) := Lib.hid ⟨HI.out.1, by
              have h := HI.out.2
              rw [List.take_of_length_le (by omega), List.take_of_length_le (by have := H4.out; omega)] at h
              rw [← HX.out.2]; exact (eqKs_iff _ _).2 h⟩
            clear HI hlt
            go_wp2_with fail
            go_ret
            exact ⟨by rw [HY.out.2]; rfl, HQ2.out.trans HY.out.1⟩
end Go.Proofs.YtlhhiiemojhjdaaDoor
set_option linter.unusedVariables false
set_option linter.unusedSimpArgs false
namespace Go.Proofs.YtlhhiiemojhjdaaDoor
open Go Go.RowKit
theorem ralike_all : ∀ (n : Nat) (a : JsonD), cntJ a ≤ n → ∀ (b : JsonD) (w : World) (vn vk un uk : Value), JV w a vn vk → JV w b un uk →
    Calls Tryd.prog 56 #[.agg (cellJ a vn vk).toArray, .agg (cellJ b un uk).toArray] w fun e w' => e = .returned (.bool (eqJ a b)) ∧ Q w w'
  | 0, a, hn, _, _, _, _, _, _, _, _ => absurd hn (by have := cnt_pos a; omega)
  | n + 1, .mk k t ns ks, hn, .mk k' t' ns' ks', w, vn, vk, un, uk, ha, hb => by
    rw [cntJ] at hn
    refine ralike_step k k' t t' ns ns' ks ks' w vn vk un uk ha hb (fun i hi W vn vk un uk h1 h2 => ?_)
    have hc := cnt_gK hi
    exact ralike_all n (gK ks i) (by omega) (gK ks' i) W vn vk un uk h1 h2
set_option maxRecDepth 100000 in
set_option maxHeartbeats 4000000 in
theorem rSame_any (a b : JsonD) (w : World) (vn vk un uk : Value) (ha : JV w a vn vk) (hb : JV w b un uk) (ba : bigJ 9223372036854775807 a) (bb : bigJ 9223372036854775807 b) :
    Calls Tryd.prog 26 #[.agg (cellJ a vn vk).toArray, .agg (cellJ b un uk).toArray] w fun e w' => e = .returned (.bool (rtB a 20 8000 && rtB b 20 8000 && eqJ a b)) ∧ Q w w' := by
  have HA := Lib.hid (fun W (hq : Q w W) => rRight_any a W vn vk (ha.q hq) ba)
  have HB := Lib.hid (fun W (hq : Q w W) => rRight_any b W un uk (hb.q hq) bb)
  have HC := Lib.hid (fun W (hq : Q w W) => ralike_all (cntJ a) a (Nat.le_refl _) b W vn vk un uk (ha.q hq) (hb.q hq))
  obtain ⟨⟨A, n, c, rfl⟩, ⟨B, m, c', rfl⟩⟩ := jv_slices ha
  obtain ⟨⟨A', n', d, rfl⟩, ⟨B', m', d', rfl⟩⟩ := jv_slices hb
  obtain ⟨x, hx⟩ : ∃ x, rtB a 20 8000 = x := ⟨_, rfl⟩
  obtain ⟨y, hy⟩ : ∃ y, rtB b 20 8000 = y := ⟨_, rfl⟩
  obtain ⟨z, hz⟩ : ∃ z, eqJ a b = z := ⟨_, rfl⟩
  rw [hx, hy, hz]
  rw [hx] at HA
  rw [hy] at HB
  rw [hz] at HC
  have HSa := Lib.hid (info_sz a (.slice A n c) (.slice B m c'))
  have HSb := Lib.hid (info_sz b (.slice A' n' d) (.slice B' m' d'))
  clear ha hb ba bb hx hy hz
  go_enter Tryd.func26, Tryd.ntmps26
  go_upto_region 1 with (fail)
  obtain ⟨W1, hW1⟩ : ∃ W1, w.alloc (.cells (cellJ a (.slice A n c) (.slice B m c')).toArray 40) = W1 := ⟨_, rfl⟩
  have hr1 : W1.heap[w.heap.size]? = some (.cells (cellJ a (.slice A n c) (.slice B m c')).toArray 40 (0, 0)) := by rw [← hW1]; exact heap_alloc_new w _
  have hq1 : Q w W1 := by rw [← hW1]; exact (Q.refl w).alloc _
  rw [hW1]
  obtain ⟨W2, hW2⟩ : ∃ W2, W1.alloc (.cells (cellJ b (.slice A' n' d) (.slice B' m' d')).toArray 40) = W2 := ⟨_, rfl⟩
  have hs1 : W1.heap.size = w.heap.size + 1 := by rw [← hW1]; simp
  have hr2 : W2.heap[w.heap.size + 1]? = some (.cells (cellJ b (.slice A' n' d) (.slice B' m' d')).toArray 40 (0, 0)) := by rw [← hW2, ← hs1]; exact heap_alloc_new W1 _
  have hq2 : Q W1 W2 := by rw [← hW2]; exact (Q.refl W1).alloc _
  have hr1 := hq2.block hr1
  rw [hW2]
  obtain ⟨j1, hj1⟩ : ∃ j1, w.heap.size = j1 := ⟨_, rfl⟩
  rw [hj1] at hr1 hr2 ⊢
  obtain ⟨j2, hj2⟩ : ∃ j2, j1 + 1 = j2 := ⟨_, rfl⟩
  rw [hj2] at hr2 ⊢
  have HQ2 := Lib.hid (hq1.trans hq2)
  have HR1 := Lib.hid hr1
  have HR2 := Lib.hid hr2
  clear hW1 hW2 hs1 hr1 hr2 hq1 hq2 hj1 hj2
  go_wp2_with (refine wpList_load_row rfl 40 (.tmp 2) rfl j1 rfl 40 (cellJ a (.slice A n c) (.slice B m c')).toArray (0, 0) _ HR1.out Tryd.underlying40 rfl HSa.out ?_)
  refine (HA.out _ HQ2.out).mono ?_
  rintro e W3 ⟨rfl, hq3⟩
  have HR2b := Lib.hid (hq3.block HR2.out)
  have HR1b := Lib.hid (hq3.block HR1.out)
  have HQ3 := Lib.hid (HQ2.out.trans hq3)
  clear hq3
  go_wp2_with (refine wpList_load_row rfl 40 (.tmp 3) rfl j2 rfl 40 (cellJ b (.slice A' n' d) (.slice B' m' d')).toArray (0, 0) _ HR2b.out Tryd.underlying40 rfl HSb.out ?_)
  refine (HB.out _ HQ3.out).mono ?_
  rintro e W4 ⟨rfl, hq4⟩
  have HQ4 := Lib.hid (HQ3.out.trans hq4)
  have h1 := hq4.block HR1b.out
  have h2 := hq4.block HR2b.out
  have x0 : W4.cell? ⟨j1, 0, none⟩ = some (.int .i64 a.kind) := by rw [cell_of_row _ _ _ _ _ _ h1]; rfl
  have x1 : W4.cell? ⟨j1, 1, none⟩ = some (.string ⟨a.text.toArray⟩) := by rw [cell_of_row _ _ _ _ _ _ h1]; rfl
  have x2 : W4.cell? ⟨j1, 2, none⟩ = some (.slice A n c) := by rw [cell_of_row _ _ _ _ _ _ h1]; rfl
  have x3 : W4.cell? ⟨j1, 3, none⟩ = some (.slice B m c') := by rw [cell_of_row _ _ _ _ _ _ h1]; rfl
  have y0 : W4.cell? ⟨j2, 0, none⟩ = some (.int .i64 b.kind) := by rw [cell_of_row _ _ _ _ _ _ h2]; rfl
  have y1 : W4.cell? ⟨j2, 1, none⟩ = some (.string ⟨b.text.toArray⟩) := by rw [cell_of_row _ _ _ _ _ _ h2]; rfl
  have y2 : W4.cell? ⟨j2, 2, none⟩ = some (.slice A' n' d) := by rw [cell_of_row _ _ _ _ _ _ h2]; rfl
  have y3 : W4.cell? ⟨j2, 3, none⟩ = some (.slice B' m' d') := by rw [cell_of_row _ _ _ _ _ _ h2]; rfl
  have HCl : Hid (Calls Tryd.prog 56 #[.agg #[.int .i64 a.kind, .string ⟨a.text.toArray⟩, .slice A n c, .slice B m c'], .agg #[.int .i64 b.kind, .string ⟨b.text.toArray⟩, .slice A' n' d, .slice B' m' d']] W4 fun e w' => e = .returned (.bool z) ∧ Q W4 w') := Lib.hid (HC.out W4 HQ4.out)
  clear hq4 h1 h2 HA HB HC
  cases x <;> cases y
  case true.true =>
    go_wp2_with fail
    refine HCl.out.mono ?_
    rintro e W5 ⟨rfl, hq5⟩
    have HQ5 := Lib.hid (HQ4.out.trans hq5)
    clear hq5 HCl x0 x1 x2 x3 y0 y1 y2 y3
    go_wp2_with fail
    go_ret
    exact ⟨by simp, HQ5.out⟩
  all_goals
    go_wp2_with fail
    go_ret
    exact ⟨rfl, HQ4.out⟩
end Go.Proofs.YtlhhiiemojhjdaaDoor
set_option linter.unusedVariables false
set_option linter.unusedSimpArgs false
namespace Go.Proofs.YtlhhiiemojhjdaaDoor
open Go Go.RowKit
structure GI (lo hi : Nat) (w w' : World) : Prop where
  os : w'.os = w.os
  tape : w'.tape = w.tape
  output : w'.output = w.output
  size : w.heap.size ≤ w'.heap.size
  block : ∀ k, k < w.heap.size → (k < lo ∨ hi ≤ k) → w'.heap[k]? = w.heap[k]?
theorem GI.refl (lo hi : Nat) (w : World) : GI lo hi w w := ⟨rfl, rfl, rfl, Nat.le_refl _, fun _ _ _ => rfl⟩
theorem GI.trans {lo hi : Nat} {a b c : World} (h : GI lo hi a b) (k : GI lo hi b c) : GI lo hi a c :=
  ⟨k.os.trans h.os, k.tape.trans h.tape, k.output.trans h.output, Nat.le_trans h.size k.size, fun i hi hr => (k.block i (Nat.lt_of_lt_of_le hi h.size) hr).trans (h.block i hi hr)⟩
theorem GI.widen {lo hi lo' hi' : Nat} {a b : World} (h : GI lo hi a b) (h1 : lo' ≤ lo) (h2 : hi ≤ hi') : GI lo' hi' a b :=
  ⟨h.os, h.tape, h.output, h.size, fun k hk hr => h.block k hk (by omega)⟩
theorem GI.q {lo hi : Nat} {a b : World} (h : Q a b) : GI lo hi a b := ⟨h.os, h.tape, h.output, h.size, fun k hk _ => Below.block h k hk⟩
theorem GI.gx {lo hi g : Nat} {a b c : World} (h : GI lo hi a b) (k : GX [g] b c) (h1 : lo ≤ g) (h2 : g < hi) : GI lo hi a c :=
  ⟨k.os.trans h.os, k.tape.trans h.tape, k.output.trans h.output, Nat.le_trans h.size k.size, fun i hi hr => (k.block i (Nat.lt_of_lt_of_le hi h.size) (by simp; omega)).trans (h.block i hi hr)⟩
theorem GI.toQ {lo hi : Nat} {w a b : World} (h : GI lo hi a b) (hq : Q w a) (hl : w.heap.size ≤ lo) : Q w b :=
  Q.below hq ⟨h.os, h.tape, h.output, by have := h.size; have := hq.size; omega, fun k hk => h.block k (Nat.lt_of_lt_of_le hk hq.size) (.inl (by omega))⟩
structure SpK (X : Nat → Prop) (ks : List JsonD) (g cap lo hi i : Nat) (W : World) : Prop where
  row : ∃ cur rest, W.heap[g]? = some (.cells cur 40 (0, 0)) ∧ cur.size = cap * 4 ∧ (cur.toList.drop (i * 4)).take ((ks.length - i) * 4) = rest ∧ JOK W X (ks.drop i) lo hi rest
  le : ks.length ≤ cap
theorem jok_cons {w : World} {X : Nat → Prop} {ks : List JsonD} {lo hi i : Nat} {rest : List Value} (hi' : i < ks.length) (h : JOK w X (ks.drop i) lo hi rest) : ∃ vn vk rest' l h', rest = cellJ (gK ks i) vn vk ++ rest' ∧ lo ≤ l ∧ l ≤ h' ∧ h' ≤ hi ∧ (∀ b, X b → b < l ∨ h' ≤ b) ∧ JO w (gK ks i) l h' vn vk ∧ JOK w X (ks.drop (i + 1)) h' hi rest' := by
  rw [show ks.drop i = gK ks i :: ks.drop (i + 1) by rw [gK_get ks i hi', List.drop_eq_getElem_cons hi'], JOK] at h
  exact h
theorem spk_next {X : Nat → Prop} {ks : List JsonD} {g cap lo hi i l h' : Nat} {W W1 : World} {cur : Array Value} {vn vk : Value} {rest' vs : List Value} (hX : X g) (hi' : i < ks.length) (hle : ks.length ≤ cap) (hrow : W.heap[g]? = some (.cells cur 40 (0, 0))) (hcs : cur.size = cap * 4)
    (hrest : (cur.toList.drop (i * 4)).take ((ks.length - i) * 4) = cellJ (gK ks i) vn vk ++ rest') (hout : ∀ b, X b → b < l ∨ h' ≤ b) (hj : JOK W X (ks.drop (i + 1)) h' hi rest') (hg : GI l h' W W1) (hv : vs.length = 4) :
    SpK X ks g cap h' hi (i + 1) (W1.setCells g (i * 4) vs) ∧ W1.heap[g]? = some (.cells cur 40 (0, 0)) ∧ (∀ b, b < W.heap.size → (b < l ∨ h' ≤ b) → b ≠ g → (W1.setCells g (i * 4) vs).heap[b]? = W.heap[b]?) := by
  have h1 : W1.heap[g]? = some (.cells cur 40 (0, 0)) := (hg.block g (lt_of_heap hrow) (hout g hX)).trans hrow
  have hb : ∀ b, b < W.heap.size → (b < l ∨ h' ≤ b) → b ≠ g → (W1.setCells g (i * 4) vs).heap[b]? = W.heap[b]? := fun b e1 e2 e3 => by
    rw [(setCells_gb g vs (i * 4) W1).block b (Nat.lt_of_lt_of_le e1 hg.size) (by simpa using e3)]; exact hg.block b e1 e2
  have hh := heap_setCells g 40 (0, 0) vs (i * 4) W1 cur h1 (by omega)
  refine ⟨⟨⟨_, rest', hh, ?_, ?_, ?_⟩, hle⟩, h1, hb⟩
  · simp [hv]; omega
  · have e1 : (i + 1) * 4 = (cur.toList.take (i * 4) ++ vs).length := by simp [hv]; omega
    show ((cur.toList.take (i * 4) ++ vs ++ cur.toList.drop (i * 4 + vs.length)).drop ((i + 1) * 4)).take _ = rest'
    rw [e1, List.drop_left, hv]
    have e2 := congrArg (List.drop 4) hrest
    rw [List.drop_append_of_le_length (by show 4 ≤ (jsonC _ _ vn vk).length; rw [jsonC_len]; exact Nat.le_refl _)] at e2
    rw [show (cellJ (gK ks i) vn vk).drop 4 = [] from rfl, List.nil_append, List.drop_take, List.drop_drop] at e2
    rw [← e2]
    congr 1
    omega
  · refine JOK.frameX (fun b e1 e2 hx e3 => hb b e3 (.inr e1) (fun e => hx (e ▸ hX))) hj
end Go.Proofs.YtlhhiiemojhjdaaDoor
