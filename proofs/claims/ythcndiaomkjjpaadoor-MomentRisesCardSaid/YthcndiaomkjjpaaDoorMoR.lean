/- MomentRises: what the law answers. -/
import Derived.Test.YthcndiaomkjjpaaDoorMoQ
import Derived.Test.YthcndiaomkjjpaaDoorMoO
set_option linter.unusedVariables false
namespace Go.Proofs.YthcndiaomkjjpaaDoor
open Go Go.RowKit
theorem LT_no {x y : List UInt8} (h : ¬ LT x y) : Op.bytesLess x y = false := by
  cases e : Op.bytesLess x y
  · rfl
  · exact absurd e h
set_option maxRecDepth 100000 in
set_option maxHeartbeats 4000000 in
theorem MomentRises_any (t u : Int) (w : World) (ht : Tab w) : Calls Tryd.prog 3 #[.int .i64 t, .int .i64 u] w fun e w' => e = .returned (.bool true) ∧ Q w w' := by
  have HT := Lib.hid ht
  clear ht
  by_cases hok : 0 ≤ t ∧ t ≤ 253402300799
  · obtain ⟨t0, t1⟩ := hok
    have HS := Lib.hid (fun w ht => Stamp_ok t w ht t0 t1)
    have HL := Lib.hid (fun w ht => Long_ok t w ht t0 t1)
    by_cases huk : 0 ≤ u ∧ u ≤ 253402300799
    · obtain ⟨u0, u1⟩ := huk
      have HS' := Lib.hid (fun w ht => Stamp_ok u w ht u0 u1)
      have HL' := Lib.hid (fun w ht => Long_ok u w ht u0 u1)
      have l1 := stamp_lt t u t0 t1 u0 u1
      have l2 := long_lt t u t0 t1 u0 u1
      have l3 := stamp_inj t u t0 t1 u0 u1
      generalize stampL t = A at *
      generalize longL t = B at *
      generalize stampL u = A' at *
      generalize longL u = B' at *
      have hcase : (decide (t < u) = true ∧ Op.bytesLess A A' = true ∧ Op.bytesLess B B' = true ∧ (t == u) = false ∧ (A == A') = false) ∨ (decide (t < u) = false ∧ Op.bytesLess A A' = false ∧ Op.bytesLess B B' = false ∧ (t == u) = true ∧ (A == A') = true) ∨
          (decide (t < u) = false ∧ Op.bytesLess A A' = false ∧ Op.bytesLess B B' = false ∧ (t == u) = false ∧ (A == A') = false) := by
        rcases (by omega : t < u ∨ t = u ∨ u < t) with h | h | h
        · left; exact ⟨by simpa using h, l1.2 h, l2.2 h, by simp; omega, by simp; intro e; have := l3.1 e; omega⟩
        · right; left; exact ⟨by simp; omega, LT_no (fun e => by have := l1.1 e; omega), LT_no (fun e => by have := l2.1 e; omega), by simpa using h, by simpa using l3.2 h⟩
        · right; right; exact ⟨by simp; omega, LT_no (fun e => by have := l1.1 e; omega), LT_no (fun e => by have := l2.1 e; omega), by simp; omega, by simp; intro e; have := l3.1 e; omega⟩
      have HC := Lib.hid hcase
      clear hcase l1 l2 l3 t0 t1 u0 u1
      go_enter Tryd.func3, Tryd.ntmps3
      go_wp2_with fail
      with_reducible refine (examples_any _ HT.out).mono ?_
      rintro e w1 ⟨rfl, hq1⟩
      have HQ1 := Lib.hid hq1
      clear hq1
      go_wp2_with fail
      with_reducible refine (HS.out _ (HT.out.q HQ1.out)).mono ?_
      rintro e w2 ⟨rfl, hq2⟩
      have HQ2 := Lib.hid (HQ1.out.trans hq2)
      clear hq2 HQ1
      go_wp2_with fail
      with_reducible refine (HS'.out _ (HT.out.q HQ2.out)).mono ?_
      rintro e w3 ⟨rfl, hq3⟩
      have HQ3 := Lib.hid (HQ2.out.trans hq3)
      clear hq3 HQ2
      go_wp2_with fail
      with_reducible refine (HL.out _ (HT.out.q HQ3.out)).mono ?_
      rintro e w4 ⟨rfl, hq4⟩
      have HQ4 := Lib.hid (HQ3.out.trans hq4)
      clear hq4 HQ3
      go_wp2_with fail
      with_reducible refine (HL'.out _ (HT.out.q HQ4.out)).mono ?_
      rintro e w5 ⟨rfl, hq5⟩
      have HQ5 := Lib.hid (HQ4.out.trans hq5)
      clear hq5 HQ4
      rcases HC.out with ⟨k1, k2, k3, k4, k5⟩ | ⟨k1, k2, k3, k4, k5⟩ | ⟨k1, k2, k3, k4, k5⟩
      all_goals
        go_wp2_with fail
        go_ret
        exact ⟨rfl, HQ5.out⟩
    · have HS' := Lib.hid (fun w => Stamp_no u w (by omega))
      have HL' := Lib.hid (fun w => Long_no u w (by omega))
      generalize stampL t = A at *
      generalize longL t = B at *
      clear huk t0 t1
      go_enter Tryd.func3, Tryd.ntmps3
      go_wp2_with fail
      with_reducible refine (examples_any _ HT.out).mono ?_
      rintro e w1 ⟨rfl, hq1⟩
      have HQ1 := Lib.hid hq1
      clear hq1
      go_wp2_with fail
      with_reducible refine (HS.out _ (HT.out.q HQ1.out)).mono ?_
      rintro e w2 ⟨rfl, hq2⟩
      have HQ2 := Lib.hid (HQ1.out.trans hq2)
      clear hq2 HQ1
      go_wp2_with fail
      with_reducible refine (HS'.out _).mono ?_
      rintro e w3 ⟨rfl, rfl⟩
      go_wp2_with fail
      with_reducible refine (HL.out _ (HT.out.q HQ2.out)).mono ?_
      rintro e w4 ⟨rfl, hq4⟩
      have HQ4 := Lib.hid (HQ2.out.trans hq4)
      clear hq4 HQ2
      go_wp2_with fail
      with_reducible refine (HL'.out _).mono ?_
      rintro e w5 ⟨rfl, rfl⟩
      go_wp2_with fail
      go_ret
      exact ⟨rfl, HQ4.out⟩
  · have HS := Lib.hid (fun w => Stamp_no t w (by omega))
    have HL := Lib.hid (fun w => Long_no t w (by omega))
    have HSU : Hid (∀ w, Tab w → ∃ s x, Calls Tryd.prog 9 #[.int .i64 u] w fun e w' => e = .returned (.tuple #[.string ⟨(s : List UInt8).toArray⟩, .int .i64 x]) ∧ Q w w') := Lib.hid fun w ht => by
      by_cases huk : 0 ≤ u ∧ u ≤ 253402300799
      · exact ⟨_, _, Stamp_ok u w ht huk.1 huk.2⟩
      · exact ⟨[], 1, (Stamp_no u w (by omega)).mono fun e w' ⟨h1, h2⟩ => ⟨h1, by rw [← h2]; exact Q.refl _⟩⟩
    have HLU : Hid (∀ w, Tab w → ∃ s x, Calls Tryd.prog 10 #[.int .i64 u] w fun e w' => e = .returned (.tuple #[.string ⟨(s : List UInt8).toArray⟩, .int .i64 x]) ∧ Q w w') := Lib.hid fun w ht => by
      by_cases huk : 0 ≤ u ∧ u ≤ 253402300799
      · exact ⟨_, _, Long_ok u w ht huk.1 huk.2⟩
      · exact ⟨[], 1, (Long_no u w (by omega)).mono fun e w' ⟨h1, h2⟩ => ⟨h1, by rw [← h2]; exact Q.refl _⟩⟩
    clear hok
    go_enter Tryd.func3, Tryd.ntmps3
    go_wp2_with fail
    with_reducible refine (examples_any _ HT.out).mono ?_
    rintro e w1 ⟨rfl, hq1⟩
    have HQ1 := Lib.hid hq1
    clear hq1
    go_wp2_with fail
    with_reducible refine (HS.out _).mono ?_
    rintro e w2 ⟨rfl, rfl⟩
    go_wp2_with fail
    obtain ⟨s, x, hsu⟩ := HSU.out _ (HT.out.q HQ1.out)
    with_reducible refine hsu.mono ?_
    rintro e w3 ⟨rfl, hq3⟩
    have HQ3 := Lib.hid (HQ1.out.trans hq3)
    clear hq3 HQ1 hsu
    go_wp2_with fail
    with_reducible refine (HL.out _).mono ?_
    rintro e w4 ⟨rfl, rfl⟩
    go_wp2_with fail
    obtain ⟨s2, x2, hlu⟩ := HLU.out _ (HT.out.q HQ3.out)
    with_reducible refine hlu.mono ?_
    rintro e w5 ⟨rfl, hq5⟩
    have HQ5 := Lib.hid (HQ3.out.trans hq5)
    clear hq5 HQ3 hlu
    go_wp2_with fail
    go_ret
    exact ⟨rfl, HQ5.out⟩
end Go.Proofs.YthcndiaomkjjpaaDoor
