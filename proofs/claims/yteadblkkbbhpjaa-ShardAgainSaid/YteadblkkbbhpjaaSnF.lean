/- the document's head and sum. -/
import Derived.Test.YteadblkkbbhpjaaSnD
import Derived.Test.YteadblkkbbhpjaaMac
set_option linter.unusedVariables false
namespace Go.Proofs.Yteadblkkbbhpjaa
open Go Go.RowKit
def headL (nm : List UInt8) (n : Int) : List UInt8 := U32 n ++ sha (listL [nm, U32 n])
def sumL (nm : List UInt8) (n i : Int) (s : List UInt8) : List UInt8 := sha (listL [nm, U32 n, U32 i, s])
theorem sz2 (a b : List UInt8) : szL [a, b] = 8 + a.length + b.length := by simp [szL]; omega
theorem sz4 (a b c d : List UInt8) : szL [a, b, c, d] = 16 + a.length + b.length + c.length + d.length := by simp [szL]; omega
set_option maxHeartbeats 1000000 in
theorem headR_any (nm : List UInt8) (n : Int) (w : World) (h0 : 0 ≤ n) (h1 : n ≤ 10000) (hl : nm.length ≤ 220) :
    Calls Try.prog 46 #[.string ⟨nm.toArray⟩, .int .i64 n] w fun e w' => e = .returned (.string ⟨(headL nm n).toArray⟩) ∧ Q w w' := by
  have l1 : ∀ k, (U32 k).length = 4 := length_U32
  have l2 : ∀ l, (sha l).length = 32 := sha_length
  have hs : 4 + szL [nm, U32 n] ≤ 60000 := by rw [sz2, l1]; omega
  have hll : (listL [nm, U32 n]).length ≤ 60000 := by unfold listL; rw [List.length_append, itL_length, l1]; omega
  go_enter Try.func46, Try.ntmps46
  go_wp2_with fail
  refine (U32_any _ _ (by omega) (by omega)).mono ?_
  rintro e w1 ⟨rfl, hq1⟩
  go_wp2_with fail
  refine (ListR_any _ 2 2 [nm, U32 n] _ (StrsAt_new w1 9 [nm, U32 n]) hs (by omega)).mono ?_
  rintro e w2 ⟨rfl, hq2⟩
  have hq3 : Q w w2 := (hq1.alloc _).trans hq2
  clear hq2
  go_wp2_with fail
  refine (Sum256R_any _ _ (by omega)).mono ?_
  rintro e w4 ⟨rfl, hq4⟩
  go_wp2_with fail
  go_ret
  exact ⟨ret_eq (by simp [headL]), hq3.trans hq4⟩
set_option maxHeartbeats 1000000 in
theorem sumS_any (nm : List UInt8) (n i : Int) (s : List UInt8) (w : World) (h0 : 0 ≤ n) (h1 : n ≤ 10000) (i0 : 0 ≤ i) (i1 : i ≤ 10000) (hl : nm.length ≤ 220) (hs' : s.length ≤ 200) :
    Calls Try.prog 47 #[.string ⟨nm.toArray⟩, .int .i64 n, .int .i64 i, .string ⟨s.toArray⟩] w fun e w' => e = .returned (.string ⟨(sumL nm n i s).toArray⟩) ∧ Q w w' := by
  have l1 : ∀ k, (U32 k).length = 4 := length_U32
  have l2 : ∀ l, (sha l).length = 32 := sha_length
  have hs : 4 + szL [nm, U32 n, U32 i, s] ≤ 60000 := by rw [sz4, l1, l1]; omega
  have hll : (listL [nm, U32 n, U32 i, s]).length ≤ 60000 := by unfold listL; rw [List.length_append, itL_length, l1]; omega
  go_enter Try.func47, Try.ntmps47
  go_wp2_with fail
  refine (U32_any _ _ (by omega) (by omega)).mono ?_
  rintro e w1 ⟨rfl, hq1⟩
  go_wp2_with fail
  refine (U32_any _ _ (by omega) (by omega)).mono ?_
  rintro e w1' ⟨rfl, hq1'⟩
  go_wp2_with fail
  refine (ListR_any _ 4 4 [nm, U32 n, U32 i, s] _ (StrsAt_new w1' 9 [nm, U32 n, U32 i, s]) hs (by omega)).mono ?_
  rintro e w2 ⟨rfl, hq2⟩
  have hq3 : Q w w2 := ((hq1.trans hq1').alloc _).trans hq2
  clear hq2
  go_wp2_with fail
  refine (Sum256R_any _ _ (by omega)).mono ?_
  rintro e w4 ⟨rfl, hq4⟩
  go_wp2_with fail
  go_ret
  exact ⟨ret_eq (by simp [sumL]), hq3.trans hq4⟩
end Go.Proofs.Yteadblkkbbhpjaa
