/- The chapter's examples; MomentDays. -/
import Derived.Test.YthcndiaomkjjpaaDoorMoN
import Derived.Test.YthcndiaomkjjpaaDoorMoM
import Derived.Test.YthcndiaomkjjpaaDoorMoE
set_option linter.unusedVariables false
namespace Go.Proofs.YthcndiaomkjjpaaDoor
open Go Go.RowKit
theorem ReadStamp_any (l : List UInt8) (w : World) (ht : Tab w) (hl : l.length ≤ 140737488355328) : Calls Tryd.prog 20 #[.string ⟨l.toArray⟩] w (ReadPost l stampL w) := by
  have hr : Calls Tryd.prog 33 #[.string ⟨l.toArray⟩, .agg #[.int .i64 0, .int .i64 4, .int .i64 6, .int .i64 9, .int .i64 11, .int .i64 13], .func (.func 9) #[] #[]] w (ReadPost l stampL w) := by
    by_cases h : ∃ t, (0 ≤ t ∧ t ≤ 253402300799) ∧ stampL t = l
    · obtain ⟨t, ⟨h0, h1⟩, ht0⟩ := h
      exact readStamp_yes l t w ht hl h0 h1 ht0
    · exact readStamp_no l w ht hl (fun t h0 h1 e => h ⟨t, ⟨h0, h1⟩, e⟩)
  have HR := Lib.hid hr
  clear hr ht
  go_enter Tryd.func20, Tryd.ntmps20
  go_wp2_with fail
  with_reducible refine HR.out.mono ?_
  rintro e w1 ⟨r, x, rfl, hs, hq⟩
  have HS := Lib.hid hs
  clear hs
  go_wp2_with fail
  go_ret2
  exact ⟨r, x, rfl, HS.out, hq⟩
theorem ReadLong_any (l : List UInt8) (w : World) (ht : Tab w) (hl : l.length ≤ 140737488355328) : Calls Tryd.prog 21 #[.string ⟨l.toArray⟩] w (ReadPost l longL w) := by
  have hr : Calls Tryd.prog 33 #[.string ⟨l.toArray⟩, .agg #[.int .i64 0, .int .i64 5, .int .i64 8, .int .i64 11, .int .i64 14, .int .i64 17], .func (.func 10) #[] #[]] w (ReadPost l longL w) := by
    by_cases h : ∃ t, (0 ≤ t ∧ t ≤ 253402300799) ∧ longL t = l
    · obtain ⟨t, ⟨h0, h1⟩, ht0⟩ := h
      exact readLong_yes l t w ht hl h0 h1 ht0
    · exact readLong_no l w ht hl (fun t h0 h1 e => h ⟨t, ⟨h0, h1⟩, e⟩)
  have HR := Lib.hid hr
  clear hr ht
  go_enter Tryd.func21, Tryd.ntmps21
  go_wp2_with fail
  with_reducible refine HR.out.mono ?_
  rintro e w1 ⟨r, x, rfl, hs, hq⟩
  have HS := Lib.hid hs
  clear hs
  go_wp2_with fail
  go_ret2
  exact ⟨r, x, rfl, HS.out, hq⟩
theorem ex1 : stampL 1369353600 = [50, 48, 49, 51, 48, 53, 50, 52, 84, 48, 48, 48, 48, 48, 48, 90] := by decide +kernel
theorem ex2 : longL 1369353600 = [50, 48, 49, 51, 45, 48, 53, 45, 50, 52, 84, 48, 48, 58, 48, 48, 58, 48, 48, 46, 48, 48, 48, 90] := by decide +kernel
theorem ex3 : webL 1369353600 = [70, 114, 105, 44, 32, 50, 52, 32, 77, 97, 121, 32, 50, 48, 49, 51, 32, 48, 48, 58, 48, 48, 58, 48, 48, 32, 71, 77, 84] := by decide +kernel
theorem ex4 : civY (zI 951782400) = 2000 ∧ civM (zI 951782400) = 2 ∧ civD (zI 951782400) = 29 := by decide +kernel
theorem ex5 : vldB 2100 2 29 = false := by decide +kernel
theorem ex6 (t : Int) (h0 : 0 ≤ t) (h1 : t ≤ 253402300799) : stampL t ≠ [50, 48, 49, 51, 48, 50, 51, 48, 84, 48, 48, 48, 48, 48, 48, 90] := by
  intro e
  obtain ⟨_, e0, e1, e2, _⟩ := parseStamp t h0 h1
  rw [e] at e0 e1 e2
  have n0 : nv [50, 48, 49, 51, 48, 50, 51, 48, 84, 48, 48, 48, 48, 48, 48, 90] 0 4 = 2013 := by decide +kernel
  have n1 : nv [50, 48, 49, 51, 48, 50, 51, 48, 84, 48, 48, 48, 48, 48, 48, 90] 4 2 = 2 := by decide +kernel
  have n2 : nv [50, 48, 49, 51, 48, 50, 51, 48, 84, 48, 48, 48, 48, 48, 48, 90] 6 2 = 30 := by decide +kernel
  have hv := vld_civ t h0 h1
  rw [← e0, ← e1, ← e2, n0, n1, n2] at hv
  exact absurd hv (by decide +kernel)
set_option maxRecDepth 100000 in
set_option maxHeartbeats 4000000 in
theorem examples_any (w : World) (ht : Tab w) : Calls Tryd.prog 8 #[] w fun e w' => e = .returned (.bool true) ∧ Q w w' := by
  have HT := Lib.hid ht
  clear ht
  go_enter Tryd.func8, Tryd.ntmps8
  go_wp2_with fail
  with_reducible refine (Stamp_ok _ _ HT.out (by decide) (by decide)).mono ?_
  rintro e w1 ⟨rfl, hq1⟩
  rw [ex1]
  have HQ1 := Lib.hid hq1
  clear hq1
  go_wp2_with fail
  with_reducible refine (Long_ok _ _ (HT.out.q HQ1.out) (by decide) (by decide)).mono ?_
  rintro e w2 ⟨rfl, hq2⟩
  rw [ex2]
  have HQ2 := Lib.hid (HQ1.out.trans hq2)
  clear hq2 HQ1
  go_wp2_with fail
  with_reducible refine (Web_ok _ _ (HT.out.q HQ2.out) (by decide) (by decide)).mono ?_
  rintro e w3 ⟨rfl, hq3⟩
  rw [ex3]
  have HQ3 := Lib.hid (HQ2.out.trans hq3)
  clear hq3 HQ2
  go_wp2_with fail
  with_reducible refine (Date_ok _ _ (by decide) (by decide)).mono ?_
  rintro e w4 ⟨rfl, rfl⟩
  rw [ex4.1, ex4.2.1, ex4.2.2]
  go_wp2_with fail
  with_reducible refine (From_no _ _ _ _ ex5).mono ?_
  rintro e w4 ⟨rfl, rfl⟩
  go_wp2_with fail
  with_reducible refine (ReadStamp_any [50, 48, 49, 51, 48, 50, 51, 48, 84, 48, 48, 48, 48, 48, 48, 90] _ (HT.out.q HQ3.out) (by decide)).mono ?_
  rintro e w5 ⟨r, x, rfl, hs, hq5⟩
  obtain rfl : x = 51 := by
    rcases hs with ⟨_, ⟨h0, h1⟩, h⟩ | ⟨h, _⟩
    · exact absurd h (ex6 r h0 h1)
    · exact h
  have HQ5 := Lib.hid (HQ3.out.trans hq5)
  clear hs hq5 HQ3
  go_wp2_with fail
  go_ret
  exact ⟨rfl, HQ5.out⟩
set_option maxHeartbeats 4000000 in
theorem MomentDays_any (Y m d : Int) (w : World) (ht : Tab w) : Calls Tryd.prog 5 #[.int .i64 Y, .int .i64 m, .int .i64 d] w fun e w' => e = .returned (.bool true) ∧ Q w w' := by
  have HT := Lib.hid ht
  clear ht
  cases hv : vldB Y m d
  · have HV := Lib.hid hv
    clear hv
    go_enter Tryd.func5, Tryd.ntmps5
    go_wp2_with fail
    with_reducible refine (examples_any _ HT.out).mono ?_
    rintro e w1 ⟨rfl, hq1⟩
    have HQ1 := Lib.hid hq1
    clear hq1
    go_wp2_with fail
    with_reducible refine (From_no _ _ _ _ HV.out).mono ?_
    rintro e w2 ⟨rfl, rfl⟩
    go_wp2_with fail
    with_reducible refine (FromR_no _ _ _ _ HV.out).mono ?_
    rintro e w2 ⟨rfl, rfl⟩
    go_wp2_with fail
    go_ret
    exact ⟨rfl, HQ1.out⟩
  · have hb := fromI_bd Y m d
    have hf : fromI Y m d = (dayZ Y m d - 719468) * 86400 := by unfold fromI; rw [if_pos hv]
    rw [hf] at hb
    have HV := Lib.hid hv
    clear hv hf
    generalize hF : (dayZ Y m d - 719468) * 86400 = F0 at *
    have HF := Lib.hid hF
    clear hF
    have t1 : decide (F0 < 0) = false := by simp; omega
    go_enter Tryd.func5, Tryd.ntmps5
    go_wp2_with fail
    with_reducible refine (examples_any _ HT.out).mono ?_
    rintro e w1 ⟨rfl, hq1⟩
    have HQ1 := Lib.hid hq1
    clear hq1
    go_wp2_with fail
    with_reducible refine (From_ok _ _ _ _ HV.out).mono ?_
    rintro e w2 ⟨rfl, rfl⟩
    rw [HF.out]
    go_wp2_with fail
    with_reducible refine (FromR_ok _ _ _ _ HV.out).mono ?_
    rintro e w2 ⟨rfl, rfl⟩
    rw [HF.out]
    go_wp2_with fail
    go_ret
    exact ⟨rfl, HQ1.out⟩
end Go.Proofs.YthcndiaomkjjpaaDoor
