/- the document's Open: a head that is none. -/
import Derived.Test.YteadblkkbbhpjaaSnK
set_option linter.unusedVariables false
namespace Go.Proofs.Yteadblkkbbhpjaa
open Go Go.RowKit
theorem r32_bd' (l : List UInt8) : 0 ≤ r32 l ∧ r32 l < 4294967296 := by
  have b0 := gB_lt l 0
  have b1 := gB_lt l 1
  have b2 := gB_lt l 2
  have b3 := gB_lt l 3
  unfold r32; omega
set_option maxRecDepth 100000 in
set_option maxHeartbeats 4000000 in
theorem OpenR_b (nm s : List UInt8) (w : World) (hs : s.length ≤ 140737488355328) (hn : nm.length ≤ 220) (hs2 : 36 ≤ s.length) (h : ¬ OpHead nm s) :
    Calls Try.prog 19 #[.string ⟨nm.toArray⟩, .string ⟨s.toArray⟩] w (OpPost nm s w) := by
  have g1 : decide (220 < (nm.length : Int)) = false := by simp; omega
  have g2 : decide ((s.length : Int) < 36) = false := by simp; omega
  have hb := r32_bd' s
  have HH := Lib.hid h
  have HR := Lib.hid (fun w => Read32R_any s w (by omega) hs)
  by_cases h3 : 10000 < r32 s
  · have g3 : decide (10000 < r32 s) = true := by simpa using h3
    generalize r32 s = N at *
    clear h h3
    go_enter Try.func19, Try.ntmps19
    go_wp2_with fail
    refine (HR.out _).mono ?_
    rintro e w1 ⟨rfl, hq1⟩
    go_wp2_with fail
    refine wp_region_q (by kernel_rfl) (by kernel_rfl) ?_
    repeat (go_big_quiet_step (fail))
    refine wpQuiet_nil ?_
    rintro wa ⟨ma, hma⟩
    have hqa : Q w1 wa := by rw [hma]; exact ma.le
    go_wp2_with fail
    go_ret3
    exact ⟨[], 14, 0, rfl, .inr (.inl ⟨hn, HH.out, rfl, rfl, rfl⟩), hq1.trans hqa⟩
  · have g3 : decide (10000 < r32 s) = false := by simpa using h3
    by_cases h4 : (s.length : Int) = sizeI (r32 s)
    · have h5 : sub s 0 36 ≠ headL nm (r32 s) := fun e => h ⟨hs2, by omega, h4, e⟩
      have g5 : (sub s 0 36 == headL nm (r32 s)) = false := by simpa using h5
      have HD := Lib.hid (fun w => headR_any nm (r32 s) w hb.1 (by omega) hn)
      have HZ := Lib.hid (fun w => SizeR_any (r32 s) w)
      have g4 : ((s.length : Int) != sizeI (r32 s)) = false := by simpa using h4
      generalize headL nm (r32 s) = H at *
      generalize sizeI (r32 s) = Z at *
      generalize r32 s = N at *
      clear h h3 h4 h5
      go_enter Try.func19, Try.ntmps19
      go_wp2_with fail
      refine (HR.out _).mono ?_
      rintro e w1 ⟨rfl, hq1⟩
      go_wp2_with fail
      refine wp_region_q (by kernel_rfl) (by kernel_rfl) ?_
      (repeat (go_big_quiet_step ((first | (go_at_call 17; exact calls_qs (HZ.out _)) | (go_at_call 46; exact calls_q (HD.out _))))))
      refine wpQuiet_nil ?_
      rintro wa ⟨ma, hma⟩
      have hqa : Q w1 wa := by rw [hma]; exact ma.le
      go_wp2_with fail
      go_ret3
      exact ⟨[], 14, 0, rfl, .inr (.inl ⟨hn, HH.out, rfl, rfl, rfl⟩), hq1.trans hqa⟩
    · have HZ := Lib.hid (fun w => SizeR_any (r32 s) w)
      have g4 : ((s.length : Int) != sizeI (r32 s)) = true := by simpa using h4
      generalize sizeI (r32 s) = Z at *
      generalize r32 s = N at *
      clear h h3 h4
      go_enter Try.func19, Try.ntmps19
      go_wp2_with fail
      refine (HR.out _).mono ?_
      rintro e w1 ⟨rfl, hq1⟩
      go_wp2_with fail
      refine wp_region_q (by kernel_rfl) (by kernel_rfl) ?_
      (repeat (go_big_quiet_step ((go_at_call 17; exact calls_qs (HZ.out _)))))
      refine wpQuiet_nil ?_
      rintro wa ⟨ma, hma⟩
      have hqa : Q w1 wa := by rw [hma]; exact ma.le
      go_wp2_with fail
      go_ret3
      exact ⟨[], 14, 0, rfl, .inr (.inl ⟨hn, HH.out, rfl, rfl, rfl⟩), hq1.trans hqa⟩
end Go.Proofs.Yteadblkkbbhpjaa
