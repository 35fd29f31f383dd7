/- MomentReads: what the law answers. -/
import Derived.Test.YthcndiaomkjjpaaDoorMoV
import Derived.Test.YthcndiaomkjjpaaDoorMoT
import Derived.Test.YthcndiaomkjjpaaDoorMoO
set_option linter.unusedVariables false
namespace Go.Proofs.YthcndiaomkjjpaaDoor
open Go Go.RowKit
theorem ReadWeb_any (l : List UInt8) (w : World) (ht : Tab w) (hml : ML w) (hl : l.length ≤ 140737488355328) : Calls Tryd.prog 22 #[.string ⟨l.toArray⟩] w (ReadPost l webL w) := by
  have hr : Calls Tryd.prog 33 #[.string ⟨l.toArray⟩, .agg #[.int .i64 12, .int .i64 0, .int .i64 5, .int .i64 17, .int .i64 20, .int .i64 23], .func (.func 11) #[] #[]] w (ReadPost l webL w) := by
    by_cases h : ∃ t, (0 ≤ t ∧ t ≤ 253402300799) ∧ webL t = l
    · obtain ⟨t, ⟨h0, h1⟩, ht0⟩ := h
      exact readWeb_yes l t w ht hl hml h0 h1 ht0
    · exact readWeb_no l w ht hl hml (fun t h0 h1 e => h ⟨t, ⟨h0, h1⟩, e⟩)
  have HR := Lib.hid hr
  clear hr ht hml
  go_enter Tryd.func22, Tryd.ntmps22
  go_wp2_with fail
  with_reducible refine HR.out.mono ?_
  rintro e w1 ⟨r, x, rfl, hs, hq⟩
  have HS := Lib.hid hs
  clear hs
  go_wp2_with fail
  go_ret2
  exact ⟨r, x, rfl, HS.out, hq⟩
/-- Both answers, told together. -/
def Both (r e x : Int) : Prop := (e = 0 ∧ x = r ∧ 0 ≤ r ∧ max r 0 = r) ∨ (e = 51 ∧ r = 0 ∧ x = -1)
theorem both_of {l : List UInt8} {TL : Int → List UInt8} {r e x : Int} (hinj : ∀ t u, 0 ≤ t → t ≤ 253402300799 → 0 ≤ u → u ≤ 253402300799 → TL t = l → TL u = l → t = u) (h : RdSays l TL r e) (k : RrSays l TL x) : Both r e x := by
  rcases h with ⟨rfl, ⟨r0, r1⟩, hr⟩ | ⟨rfl, rfl, hn⟩
  · rcases k with ⟨⟨x0, x1⟩, hx⟩ | ⟨rfl, hn⟩
    · exact .inl ⟨rfl, hinj x r x0 x1 r0 r1 hx hr, r0, by omega⟩
    · exact absurd hr (hn r r0 r1)
  · rcases k with ⟨⟨x0, x1⟩, hx⟩ | ⟨rfl, _⟩
    · exact absurd hx (hn x x0 x1)
    · exact .inr ⟨rfl, rfl, rfl⟩
theorem injS {l : List UInt8} : ∀ t u, 0 ≤ t → t ≤ 253402300799 → 0 ≤ u → u ≤ 253402300799 → stampL t = l → stampL u = l → t = u := fun t u t0 t1 u0 u1 ht hu => (joinedStamp l t t0 t1 ht).symm.trans (joinedStamp l u u0 u1 hu)
theorem injL {l : List UInt8} : ∀ t u, 0 ≤ t → t ≤ 253402300799 → 0 ≤ u → u ≤ 253402300799 → longL t = l → longL u = l → t = u := fun t u t0 t1 u0 u1 ht hu => (joinedLong l t t0 t1 ht).symm.trans (joinedLong l u u0 u1 hu)
theorem injW {l : List UInt8} : ∀ t u, 0 ≤ t → t ≤ 253402300799 → 0 ≤ u → u ≤ 253402300799 → webL t = l → webL u = l → t = u := by
  intro t u t0 t1 u0 u1 ht hu
  have a := joinedWeb l t t0 t1 ht
  have b := joinedWeb l u u0 u1 hu
  obtain ⟨_, ⟨m0, m1⟩, _⟩ := parts_bd t t0 t1
  obtain ⟨_, ⟨n0, n1⟩, _⟩ := parts_bd u u0 u1
  have e1 := (parseWeb t t0 t1).2.1
  have e2 := (parseWeb u u0 u1).2.1
  rw [ht] at e1
  rw [hu] at e2
  have i1 := (month3 _ m0 m1).2
  have i2 := (month3 _ n0 n1).2
  rw [← e1] at i1
  rw [← e2] at i2
  have e : civM (zI t) = civM (zI u) := by omega
  rw [e] at a
  exact a.symm.trans b
set_option maxRecDepth 100000 in
set_option maxHeartbeats 8000000 in
theorem MomentReads_any (l : List UInt8) (w : World) (hl : l.length ≤ 140737488355328) (ht : Tab w) (hsh : w.ShapedOpen Tryd.prog) : Calls Tryd.prog 7 #[.string ⟨l.toArray⟩] w fun e w' => e = .returned (.bool true) ∧ Q w w' := by
  have HT := Lib.hid ht
  have HM := Lib.hid (ml_shaped hsh)
  clear ht hsh
  go_enter Tryd.func7, Tryd.ntmps7
  go_wp2_with fail
  with_reducible refine (examples_any _ HT.out).mono ?_
  rintro e w1 ⟨rfl, hq1⟩
  have HQ1 := Lib.hid hq1
  clear hq1
  go_wp2_with fail
  with_reducible refine (ReadStamp_any l _ (HT.out.q HQ1.out) hl).mono ?_
  rintro e w2 ⟨r1, e1, rfl, h1, hq2⟩
  have HQ2 := Lib.hid (HQ1.out.trans hq2)
  have H1 := Lib.hid h1
  clear hq2 HQ1 h1
  go_wp2_with fail
  with_reducible refine (ReadLong_any l _ (HT.out.q HQ2.out) hl).mono ?_
  rintro e w3 ⟨r2, e2, rfl, h2, hq3⟩
  have HQ3 := Lib.hid (HQ2.out.trans hq3)
  have H2 := Lib.hid h2
  clear hq3 HQ2 h2
  go_wp2_with fail
  with_reducible refine (ReadWeb_any l _ (HT.out.q HQ3.out) (HM.out.q HQ3.out) hl).mono ?_
  rintro e w4 ⟨r3, e3, rfl, h3, hq4⟩
  have HQ4 := Lib.hid (HQ3.out.trans hq4)
  have H3 := Lib.hid h3
  clear hq4 HQ3 h3
  go_wp2_with fail
  with_reducible refine (ReadStampR l _ hl).mono ?_
  rintro e w5 ⟨x1, rfl, k1, hq5⟩
  have HQ5 := Lib.hid (HQ4.out.trans hq5)
  have B1 := Lib.hid (both_of injS H1.out k1)
  clear hq5 HQ4 k1 H1
  go_wp2_with fail
  with_reducible refine (ReadLongR l _ hl).mono ?_
  rintro e w6 ⟨x2, rfl, k2, hq6⟩
  have HQ6 := Lib.hid (HQ5.out.trans hq6)
  have B2 := Lib.hid (both_of injL H2.out k2)
  clear hq6 HQ5 k2 H2
  go_wp2_with fail
  with_reducible refine (ReadWebR l _ hl).mono ?_
  rintro e w7 ⟨x3, rfl, k3, hq7⟩
  have HQ7 := Lib.hid (HQ6.out.trans hq7)
  have B3 := Lib.hid (both_of injW H3.out k3)
  clear hq7 HQ6 k3 H3
  rcases B1.out with ⟨rfl, rfl, p1, m1⟩ | ⟨rfl, rfl, rfl⟩
  all_goals
    rcases B2.out with ⟨rfl, rfl, p2, m2⟩ | ⟨rfl, rfl, rfl⟩
    all_goals
      rcases B3.out with ⟨rfl, rfl, p3, m3⟩ | ⟨rfl, rfl, rfl⟩
      all_goals
        clear B1 B2 B3
        try (have d1 : decide (0 ≤ x1) = true := by simpa using p1)
        try (have d2 : decide (0 ≤ x2) = true := by simpa using p2)
        try (have d3 : decide (0 ≤ x3) = true := by simpa using p3)
        try (have g1 : (x1 == max x1 0) = true := by rw [m1]; simp)
        try (have g2 : (x2 == max x2 0) = true := by rw [m2]; simp)
        try (have g3 : (x3 == max x3 0) = true := by rw [m3]; simp)
        try (have n1 : ¬ x1 < 0 := by omega)
        try (have n2 : ¬ x2 < 0 := by omega)
        try (have n3 : ¬ x3 < 0 := by omega)
        try (clear p1 m1)
        try (clear p2 m2)
        try (clear p3 m3)
        go_upto_region 8 with (fail)
        have c0 : ((0 : Int) == max (-1) 0) = true := by decide
        have c1 : decide ((0 : Int) ≤ -1) = false := by decide
        repeat go_step
        go_ret
        exact ⟨rfl, HQ7.out⟩
end Go.Proofs.YthcndiaomkjjpaaDoor
