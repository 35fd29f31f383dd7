/- MomentTells: what the law answers. -/
import Derived.Test.YthcndiaomkjjpaaDoorMoO
import Derived.Test.YthcndiaomkjjpaaDoorMoH
set_option linter.unusedVariables false
namespace Go.Proofs.YthcndiaomkjjpaaDoor
open Go Go.RowKit
set_option maxRecDepth 100000 in
set_option maxHeartbeats 4000000 in
theorem MomentTells_any (t : Int) (w : World) (ht : Tab w) : Calls Tryd.prog 4 #[.int .i64 t] w fun e w' => e = .returned (.bool true) ∧ Q w w' := by
  have HT := Lib.hid ht
  clear ht
  by_cases hok : 0 ≤ t ∧ t ≤ 253402300799
  · obtain ⟨h0, h1⟩ := hok
    have hi := IsR t
    rw [show (decide (0 ≤ t) && decide (t ≤ 253402300799)) = true from by simp [h0, h1]] at hi
    have HI := Lib.hid hi
    have HA := Lib.hid (fun w => Apart_ok t w h0 h1)
    have HSR := Lib.hid (fun w => StampR t w h0 h1)
    have HLR := Lib.hid (fun w => LongR t w h0 h1)
    have HWR := Lib.hid (fun w => WebR t w h0 h1)
    have HD := Lib.hid (fun w => Date_ok t w h0 h1)
    have HS := Lib.hid (fun w ht => Stamp_ok t w ht h0 h1)
    have HL := Lib.hid (fun w ht => Long_ok t w ht h0 h1)
    have HW := Lib.hid (fun w ht => Web_ok t w ht h0 h1)
    clear hi h0 h1
    generalize stampL t = A at *
    generalize longL t = B at *
    generalize webL t = C at *
    go_enter Tryd.func4, Tryd.ntmps4
    go_wp2_with fail
    with_reducible refine (examples_any _ HT.out).mono ?_
    rintro e w1 ⟨rfl, hq1⟩
    have HQ1 := Lib.hid hq1
    clear hq1
    go_wp2_with fail
    with_reducible refine (HS.out _ (HT.out.q HQ1.out)).mono ?_
    rintro e w2 ⟨rfl, hq2⟩
    have HQ2 := Lib.hid (HQ1.out.trans hq2)
    clear hq2 HQ1
    go_wp2_with fail
    with_reducible refine (HL.out _ (HT.out.q HQ2.out)).mono ?_
    rintro e w3 ⟨rfl, hq3⟩
    have HQ3 := Lib.hid (HQ2.out.trans hq3)
    clear hq3 HQ2
    go_wp2_with fail
    with_reducible refine (HW.out _ (HT.out.q HQ3.out)).mono ?_
    rintro e w4 ⟨rfl, hq4⟩
    have HQ4 := Lib.hid (HQ3.out.trans hq4)
    clear hq4 HQ3
    go_wp2_with fail
    with_reducible refine (HD.out _).mono ?_
    rintro e w5 ⟨rfl, rfl⟩
    go_wp2_with fail
    with_reducible refine (HI.out _).mono ?_
    rintro e w5 ⟨rfl, rfl⟩
    go_wp2_with fail
    with_reducible refine (HA.out _).mono ?_
    rintro e w6 ⟨rfl, hq6⟩
    have HQ6 := Lib.hid (HQ4.out.trans hq6)
    clear hq6 HQ4
    go_upto_region 10 with (refine wpList_store_row rfl 31 (.tmp 15) (.tmp 77) (by rfl) w6.heap.size (whenV t) (by rfl) (by rfl) 31 _ (heap_alloc_new w6 _) (infoWT t) rfl (allWT t) ?_)
    obtain ⟨w7, hw7, hT7, hq7⟩ := whenT_start w6 _ t
    rw [← hw7]
    clear hw7
    generalize w6.heap.size = g at *
    simp only [Act.put]
    have HT7 := Lib.hid hT7
    have HQ7 := Lib.hid (HQ6.out.trans hq7)
    clear hT7 hq7 HQ6
    go_wp2_with fail
    with_reducible refine (HSR.out _).mono ?_
    rintro e w8 ⟨rfl, hq8⟩
    have HT8 := Lib.hid (HT7.out.q hq8)
    have HQ8 := Lib.hid (HQ7.out.trans hq8)
    clear hq8 HQ7 HT7
    go_wp2_with fail
    with_reducible refine (HLR.out _).mono ?_
    rintro e w9 ⟨rfl, hq9⟩
    have HT9 := Lib.hid (HT8.out.q hq9)
    have HQ9 := Lib.hid (HQ8.out.trans hq9)
    clear hq9 HQ8 HT8
    go_wp2_with fail
    with_reducible refine (HWR.out _).mono ?_
    rintro e w10 ⟨rfl, hq10⟩
    have hT10 := HT9.out.q hq10
    have c0 := hT10.c0
    have c1 := hT10.c1
    have c2 := hT10.c2
    have HQ10 := Lib.hid (HQ9.out.trans hq10)
    clear hq10 HQ9 HT9 hT10
    go_wp2_with fail
    go_ret
    exact ⟨rfl, HQ10.out⟩
  · have hno : t < 0 ∨ 253402300799 < t := by omega
    have hi := IsR t
    rw [show (decide (0 ≤ t) && decide (t ≤ 253402300799)) = false from by simp; omega] at hi
    have HI := Lib.hid hi
    have HD := Lib.hid (fun w => Date_no t w hno)
    have HS := Lib.hid (fun w => Stamp_no t w hno)
    have HL := Lib.hid (fun w => Long_no t w hno)
    have HW := Lib.hid (fun w => Web_no t w hno)
    clear hi hno hok
    go_enter Tryd.func4, Tryd.ntmps4
    go_wp2_with fail
    with_reducible refine (examples_any _ HT.out).mono ?_
    rintro e w1 ⟨rfl, hq1⟩
    have HQ1 := Lib.hid hq1
    clear hq1
    go_wp2_with fail
    with_reducible refine (HS.out _).mono ?_
    rintro e w2 ⟨rfl, rfl⟩
    go_wp2_with fail
    with_reducible refine (HL.out _).mono ?_
    rintro e w2 ⟨rfl, rfl⟩
    go_wp2_with fail
    with_reducible refine (HW.out _).mono ?_
    rintro e w2 ⟨rfl, rfl⟩
    go_wp2_with fail
    with_reducible refine (HD.out _).mono ?_
    rintro e w2 ⟨rfl, rfl⟩
    go_wp2_with fail
    with_reducible refine (HI.out _).mono ?_
    rintro e w2 ⟨rfl, rfl⟩
    go_wp2_with fail
    go_ret
    exact ⟨rfl, HQ1.out⟩
end Go.Proofs.YthcndiaomkjjpaaDoor
