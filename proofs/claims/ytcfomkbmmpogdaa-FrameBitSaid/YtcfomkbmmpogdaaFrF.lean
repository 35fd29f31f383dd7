/- frame.Unpack. -/
import Derived.Test.YtcfomkbmmpogdaaFrC
import Derived.Test.YtcfomkbmmpogdaaFrD
set_option linter.unusedVariables false
namespace Go.Proofs.Ytcfomkbmmpogdaa
open Go Go.RowKit

def uCrc (s : List UInt8) : BitVec 32 := crcMore (crcSum (sub s 4 20)) (sub s 24 (24 + nAt s 4))
def tailL (e n : Int) : List UInt8 := U32 n ++ (U32 (e / 4294967296) ++ U32 e)
def UnpOk (s : List UInt8) (e n : Int) : Prop :=
  rightB e n = true ∧ 24 ≤ s.length ∧ (gB s 0).toNat = 1 ∧ nAt s 4 ≤ 60000 ∧ endsN (nAt s 4) ≤ s.length ∧ sub s 8 20 = tailL e n ∧ r32 (sub s 20 s.length) = ((uCrc s).toNat : Int)

set_option maxRecDepth 100000 in
set_option maxHeartbeats 2000000 in
theorem Unpack_ok (s : List UInt8) (e n : Int) (w : World) (hl : s.length ≤ 281474976710656) (h : UnpOk s e n) :
    Calls Try.prog 16 #[.string ⟨s.toArray⟩, .int .i64 e, .int .i64 n] w fun x w' =>
      x = .returned (.tuple #[.string ⟨(sub s 24 (24 + nAt s 4)).toArray⟩, .int .i64 (endsN (nAt s 4)), .nilIface]) ∧ Q w w' := by
  obtain ⟨hr, h24, h1, hN, hE, hT, hC⟩ := h
  obtain ⟨e0, e1, n0, n1⟩ := right_spec hr
  have hd1 : ((gB s 0).toNat : Int) = 1 := by omega
  have b1 : (((gB s 0).toNat : Int) != 1) = false := by simp [h1]
  have b2 : (sub s 8 20 == U32 n ++ (U32 (e / 4294967296) ++ U32 e)) = true := by simpa [tailL] using hT
  have b3 : (r32 (sub s 20 s.length) != ((crcMore (crcSum (sub s 4 20)) (sub s 24 (24 + nAt s 4))).toNat : Int)) = false := by simpa [uCrc] using hC
  have d0 : decide ((s.length : Int) < 24) = false := by simp; omega
  have d1 : decide (60000 < (nAt s 4 : Int)) = false := by simp; omega
  have d2 : decide ((s.length : Int) < endsN (nAt s 4)) = false := by simp; omega
  have hE2 : 24 + (nAt s 4 : Int) ≤ endsN (nAt s 4) := by unfold endsN; omega
  have c1 := (crcMore (crcSum (sub s 4 20)) (sub s 24 (24 + nAt s 4))).isLt
  have l1 : ∀ k, (U32 k).length = 4 := length_U32
  have ht : (24 + (nAt s 4 : Int)).toNat = 24 + nAt s 4 := by omega
  clear hT hC h1 hd1
  have hn4 := nAt_r32 s 4
  have HN := Lib.hid hn4
  clear hn4
  have ls1 := length_sub s 4 20
  have ls2 := length_sub s 24 (24 + nAt s 4)
  have LS1 := Lib.hid ls1
  have LS2 := Lib.hid ls2
  clear ls1 ls2
  go_enter Try.func16, Try.ntmps16
  go_wp2_with fail
  refine (right_any _ _ _).mono ?_
  rintro x w1 ⟨rfl, rfl⟩
  rw [hr]
  go_wp2_with fail
  refine (read32_any _ _ (by rw [length_sub]; omega)).mono ?_
  rintro x w1 ⟨rfl, hq1⟩
  rw [HN.out]
  go_wp2_with fail
  refine wp_region_q (by kernel_rfl) (by kernel_rfl) ?_
  (repeat (go_big_quiet_step (first | (go_at_call 28; exact calls_qs (ends_any _ _ (by omega) (by omega))) | (go_at_call 26; exact calls_q (u32_any _ _ (by omega) (by omega))) | (go_at_call 36; exact calls_q (read32_any _ _ (by rw [length_sub]; omega))) | (go_at_call 17; exact calls_qs (Sum_any _ _ (by rw [length_sub]; omega))) | (go_at_call 19; exact calls_qs (More_any _ _ _ (by rw [length_sub]; omega))))))
  refine wpQuiet_nil ?_
  rintro _ ⟨⟨w2, hq2⟩, rfl⟩
  go_wp2_with fail
  refine (Clone_any _ _ (by rw [LS2.out]; omega)).mono ?_
  rintro x w3 ⟨rfl, hq3⟩
  go_wp2_with fail
  refine (ends_any _ _ (by omega) (by omega)).mono ?_
  rintro x w4 ⟨rfl, rfl⟩
  go_wp2_with fail
  go_ret3
  exact ⟨rfl, (hq1.trans hq2).trans hq3⟩

set_option maxRecDepth 100000 in
set_option maxHeartbeats 2000000 in
theorem Unpack_bad1 (s : List UInt8) (e n : Int) (w : World) (hl : s.length ≤ 281474976710656) (h : rightB e n = false ∨ s.length < 24 ∨ (gB s 0).toNat ≠ 1) :
    Calls Try.prog 16 #[.string ⟨s.toArray⟩, .int .i64 e, .int .i64 n] w fun x w' =>
      ∃ ev, x = .returned (.tuple #[.string ⟨#[]⟩, .int .i64 0, ev]) ∧ ErrIs w' ev 20 0 ∧ Q w w' := by
  by_cases hr : rightB e n = false
  · go_enter Try.func16, Try.ntmps16
    go_wp2_with fail
    refine (right_any _ _ _).mono ?_
    rintro x w1 ⟨rfl, rfl⟩
    rw [hr]
    go_wp2_with fail
    refine (fault_any _ _ _).mono ?_; rintro e wf ⟨⟨b, rfl, hf⟩, hqf⟩; go_wp2_with fail; go_ret3
    exact ⟨_, rfl, .inr ⟨by decide, b, rfl, hf⟩, hqf⟩
  · have hr : rightB e n = true := by simpa using hr
    by_cases h24 : s.length < 24
    · have d0 : decide ((s.length : Int) < 24) = true := by simp; omega
      go_enter Try.func16, Try.ntmps16
      go_wp2_with fail
      refine (right_any _ _ _).mono ?_
      rintro x w1 ⟨rfl, rfl⟩
      rw [hr]
      go_wp2_with fail
      refine (fault_any _ _ _).mono ?_; rintro e wf ⟨⟨b, rfl, hf⟩, hqf⟩; go_wp2_with fail; go_ret3
      exact ⟨_, rfl, .inr ⟨by decide, b, rfl, hf⟩, hqf⟩
    · have h1 : (gB s 0).toNat ≠ 1 := by rcases h with h | h | h <;> first | exact h | omega | (rw [hr] at h; cases h)
      have d0 : decide ((s.length : Int) < 24) = false := by simp; omega
      have b1 : (((gB s 0).toNat : Int) != 1) = true := by simp; omega
      go_enter Try.func16, Try.ntmps16
      go_wp2_with fail
      refine (right_any _ _ _).mono ?_
      rintro x w1 ⟨rfl, rfl⟩
      rw [hr]
      go_wp2_with fail
      refine (fault_any _ _ _).mono ?_; rintro e wf ⟨⟨b, rfl, hf⟩, hqf⟩; go_wp2_with fail; go_ret3
      exact ⟨_, rfl, .inr ⟨by decide, b, rfl, hf⟩, hqf⟩

set_option maxRecDepth 100000 in
set_option maxHeartbeats 2000000 in
theorem Unpack_bad2 (s : List UInt8) (e n : Int) (w : World) (hl : s.length ≤ 281474976710656) (hr : rightB e n = true) (h24 : 24 ≤ s.length) (h1 : (gB s 0).toNat = 1)
    (h : 60000 < nAt s 4 ∨ s.length < endsN (nAt s 4)) :
    Calls Try.prog 16 #[.string ⟨s.toArray⟩, .int .i64 e, .int .i64 n] w fun x w' =>
      ∃ ev, x = .returned (.tuple #[.string ⟨#[]⟩, .int .i64 0, ev]) ∧ ErrIs w' ev 20 0 ∧ Q w w' := by
  obtain ⟨e0, e1, n0, n1⟩ := right_spec hr
  have b1 : (((gB s 0).toNat : Int) != 1) = false := by simp [h1]
  have d0 : decide ((s.length : Int) < 24) = false := by simp; omega
  have l1 : ∀ k, (U32 k).length = 4 := length_U32
  clear h1
  have hn4 := nAt_r32 s 4
  have HN := Lib.hid hn4
  clear hn4
  by_cases hN : 60000 < nAt s 4
  · have d1 : decide (60000 < (nAt s 4 : Int)) = true := by simp; omega
    clear h
    go_enter Try.func16, Try.ntmps16; go_wp2_with fail; refine (right_any _ _ _).mono ?_; rintro x w1 ⟨rfl, rfl⟩; rw [hr]; go_wp2_with fail; refine (read32_any _ _ (by rw [length_sub]; omega)).mono ?_; rintro x w1 ⟨rfl, hq1⟩; rw [HN.out]; go_wp2_with fail; refine wp_region_q (by kernel_rfl) (by kernel_rfl) ?_; (repeat (go_big_quiet_step (first | (go_at_call 28; exact calls_qs (ends_any _ _ (by omega) (by omega))) | (go_at_call 26; exact calls_q (u32_any _ _ (by omega) (by omega))) | (go_at_call 36; exact calls_q (read32_any _ _ (by rw [length_sub]; omega))) | (go_at_call 17; exact calls_qs (Sum_any _ _ (by rw [length_sub]; omega))) | (go_at_call 19; exact calls_qs (More_any _ _ _ (by rw [length_sub]; omega)))))); refine wpQuiet_nil ?_; rintro _ ⟨⟨w2, hq2⟩, rfl⟩; go_wp2_with fail; refine (fault_any _ _ _).mono ?_; rintro e wf ⟨⟨b, rfl, hf⟩, hqf⟩; go_wp2_with fail; go_ret3; exact ⟨_, rfl, .inr ⟨by decide, b, rfl, hf⟩, (hq1.trans hq2).trans hqf⟩
  · have d1 : decide (60000 < (nAt s 4 : Int)) = false := by simp; omega
    have hE : (s.length : Int) < endsN (nAt s 4) := by omega
    have d2 : decide ((s.length : Int) < endsN (nAt s 4)) = true := by simp; omega
    clear h
    go_enter Try.func16, Try.ntmps16; go_wp2_with fail; refine (right_any _ _ _).mono ?_; rintro x w1 ⟨rfl, rfl⟩; rw [hr]; go_wp2_with fail; refine (read32_any _ _ (by rw [length_sub]; omega)).mono ?_; rintro x w1 ⟨rfl, hq1⟩; rw [HN.out]; go_wp2_with fail; refine wp_region_q (by kernel_rfl) (by kernel_rfl) ?_; (repeat (go_big_quiet_step (first | (go_at_call 28; exact calls_qs (ends_any _ _ (by omega) (by omega))) | (go_at_call 26; exact calls_q (u32_any _ _ (by omega) (by omega))) | (go_at_call 36; exact calls_q (read32_any _ _ (by rw [length_sub]; omega))) | (go_at_call 17; exact calls_qs (Sum_any _ _ (by rw [length_sub]; omega))) | (go_at_call 19; exact calls_qs (More_any _ _ _ (by rw [length_sub]; omega)))))); refine wpQuiet_nil ?_; rintro _ ⟨⟨w2, hq2⟩, rfl⟩; go_wp2_with fail; refine (fault_any _ _ _).mono ?_; rintro e wf ⟨⟨b, rfl, hf⟩, hqf⟩; go_wp2_with fail; go_ret3; exact ⟨_, rfl, .inr ⟨by decide, b, rfl, hf⟩, (hq1.trans hq2).trans hqf⟩
set_option maxRecDepth 100000 in
set_option maxHeartbeats 2000000 in
theorem Unpack_bad3 (s : List UInt8) (e n : Int) (w : World) (hl : s.length ≤ 281474976710656) (hr : rightB e n = true) (h24 : 24 ≤ s.length) (h1 : (gB s 0).toNat = 1)
    (hN : nAt s 4 ≤ 60000) (hE : endsN (nAt s 4) ≤ s.length)
    (h : sub s 8 20 ≠ tailL e n ∨ r32 (sub s 20 s.length) ≠ ((uCrc s).toNat : Int)) :
    Calls Try.prog 16 #[.string ⟨s.toArray⟩, .int .i64 e, .int .i64 n] w fun x w' =>
      ∃ ev, x = .returned (.tuple #[.string ⟨#[]⟩, .int .i64 0, ev]) ∧ ErrIs w' ev 20 0 ∧ Q w w' := by
  obtain ⟨e0, e1, n0, n1⟩ := right_spec hr
  have b1 : (((gB s 0).toNat : Int) != 1) = false := by simp [h1]
  have d0 : decide ((s.length : Int) < 24) = false := by simp; omega
  have d1 : decide (60000 < (nAt s 4 : Int)) = false := by simp; omega
  have d2 : decide ((s.length : Int) < endsN (nAt s 4)) = false := by simp; omega
  have hE2 : 24 + (nAt s 4 : Int) ≤ endsN (nAt s 4) := by unfold endsN; omega
  have c1 := (crcMore (crcSum (sub s 4 20)) (sub s 24 (24 + nAt s 4))).isLt
  have l1 : ∀ k, (U32 k).length = 4 := length_U32
  have ht : (24 + (nAt s 4 : Int)).toNat = 24 + nAt s 4 := by omega
  clear h1
  have hn4 := nAt_r32 s 4
  have HN := Lib.hid hn4
  clear hn4
  by_cases hT : sub s 8 20 = tailL e n
  · have hC := h.resolve_left (fun x => x hT)
    have b2 : (sub s 8 20 == U32 n ++ (U32 (e / 4294967296) ++ U32 e)) = true := by simpa [tailL] using hT
    have b3 : (r32 (sub s 20 s.length) != ((crcMore (crcSum (sub s 4 20)) (sub s 24 (24 + nAt s 4))).toNat : Int)) = true := by simpa [uCrc] using hC
    clear h hT hC
    go_enter Try.func16, Try.ntmps16; go_wp2_with fail; refine (right_any _ _ _).mono ?_; rintro x w1 ⟨rfl, rfl⟩; rw [hr]; go_wp2_with fail; refine (read32_any _ _ (by rw [length_sub]; omega)).mono ?_; rintro x w1 ⟨rfl, hq1⟩; rw [HN.out]; go_wp2_with fail; refine wp_region_q (by kernel_rfl) (by kernel_rfl) ?_; (repeat (go_big_quiet_step (first | (go_at_call 28; exact calls_qs (ends_any _ _ (by omega) (by omega))) | (go_at_call 26; exact calls_q (u32_any _ _ (by omega) (by omega))) | (go_at_call 36; exact calls_q (read32_any _ _ (by rw [length_sub]; omega))) | (go_at_call 17; exact calls_qs (Sum_any _ _ (by rw [length_sub]; omega))) | (go_at_call 19; exact calls_qs (More_any _ _ _ (by rw [length_sub]; omega)))))); refine wpQuiet_nil ?_; rintro _ ⟨⟨w2, hq2⟩, rfl⟩; go_wp2_with fail; refine (fault_any _ _ _).mono ?_; rintro e wf ⟨⟨b, rfl, hf⟩, hqf⟩; go_wp2_with fail; go_ret3; exact ⟨_, rfl, .inr ⟨by decide, b, rfl, hf⟩, (hq1.trans hq2).trans hqf⟩
  · have b2 : (sub s 8 20 == U32 n ++ (U32 (e / 4294967296) ++ U32 e)) = false := by simpa [tailL] using hT
    clear h hT
    go_enter Try.func16, Try.ntmps16; go_wp2_with fail; refine (right_any _ _ _).mono ?_; rintro x w1 ⟨rfl, rfl⟩; rw [hr]; go_wp2_with fail; refine (read32_any _ _ (by rw [length_sub]; omega)).mono ?_; rintro x w1 ⟨rfl, hq1⟩; rw [HN.out]; go_wp2_with fail; refine wp_region_q (by kernel_rfl) (by kernel_rfl) ?_; (repeat (go_big_quiet_step (first | (go_at_call 28; exact calls_qs (ends_any _ _ (by omega) (by omega))) | (go_at_call 26; exact calls_q (u32_any _ _ (by omega) (by omega))) | (go_at_call 36; exact calls_q (read32_any _ _ (by rw [length_sub]; omega))) | (go_at_call 17; exact calls_qs (Sum_any _ _ (by rw [length_sub]; omega))) | (go_at_call 19; exact calls_qs (More_any _ _ _ (by rw [length_sub]; omega)))))); refine wpQuiet_nil ?_; rintro _ ⟨⟨w2, hq2⟩, rfl⟩; go_wp2_with fail; refine (fault_any _ _ _).mono ?_; rintro e wf ⟨⟨b, rfl, hf⟩, hqf⟩; go_wp2_with fail; go_ret3; exact ⟨_, rfl, .inr ⟨by decide, b, rfl, hf⟩, (hq1.trans hq2).trans hqf⟩
theorem Unpack_bad (s : List UInt8) (e n : Int) (w : World) (hl : s.length ≤ 281474976710656) (h : ¬ UnpOk s e n) :
    Calls Try.prog 16 #[.string ⟨s.toArray⟩, .int .i64 e, .int .i64 n] w fun x w' =>
      ∃ ev, x = .returned (.tuple #[.string ⟨#[]⟩, .int .i64 0, ev]) ∧ ErrIs w' ev 20 0 ∧ Q w w' := by
  by_cases h1 : rightB e n = true ∧ 24 ≤ s.length ∧ (gB s 0).toNat = 1
  · obtain ⟨hr, h24, h1⟩ := h1
    by_cases h2 : nAt s 4 ≤ 60000 ∧ endsN (nAt s 4) ≤ s.length
    · refine Unpack_bad3 s e n w hl hr h24 h1 h2.1 h2.2 ?_
      by_cases h3 : sub s 8 20 = tailL e n
      · exact .inr fun h4 => h ⟨hr, h24, h1, h2.1, h2.2, h3, h4⟩
      · exact .inl h3
    · exact Unpack_bad2 s e n w hl hr h24 h1 (by omega)
  · refine Unpack_bad1 s e n w hl ?_
    by_cases h2 : rightB e n = false
    · exact .inl h2
    · have h2 : rightB e n = true := by simpa using h2
      by_cases h3 : s.length < 24
      · exact .inr (.inl h3)
      · exact .inr (.inr fun h4 => h1 ⟨h2, by omega, h4⟩)
end Go.Proofs.Ytcfomkbmmpogdaa
