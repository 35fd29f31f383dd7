/- shard's small functions. -/
import Derived.Test.YteadblkkbbhpjaaSnB
import Derived.Test.YteadblkkbbhpjaaHsE
import Derived.Test.YteadblkkbbhpjaaRfC
set_option linter.unusedVariables false
namespace Go.Proofs.Yteadblkkbbhpjaa
open Go Go.RowKit
set_option maxHeartbeats 400000 in
theorem Num_ok (n : Int) (w : World) (h0 : 0 ≤ n) (h1 : n ≤ 4294967295) :
    Calls Try.prog 62 #[.int .i64 n] w fun e w' => e = .returned (.tuple #[.string ⟨(U32 n).toArray⟩, .nilIface]) ∧ Q w w' := by
  go_enter Try.func62, Try.ntmps62
  go_wp2_with fail
  refine (u32_any _ _ (by omega) (by omega)).mono ?_
  rintro e w1 ⟨rfl, hq1⟩
  go_wp2_with fail
  go_ret2
  exact ⟨rfl, hq1⟩
set_option maxHeartbeats 400000 in
theorem num_any (n : Int) (w : World) (h0 : 0 ≤ n) (h1 : n ≤ 4294967295) :
    Calls Try.prog 41 #[.int .i64 n] w fun e w' => e = .returned (.string ⟨(U32 n).toArray⟩) ∧ Q w w' := by
  go_enter Try.func41, Try.ntmps41
  go_wp2_with fail
  refine (Num_ok _ _ h0 h1).mono ?_
  rintro e w1 ⟨rfl, hq1⟩
  go_wp2_with fail
  go_ret
  exact ⟨rfl, hq1⟩
set_option maxHeartbeats 400000 in
theorem shsum_any (A : Option Addr) (n cap : Nat) (ls : List (List UInt8)) (w : World) (h : StrsAt w A n ls) (hs : 4 + szL ls ≤ 60000) (hcap : cap ≤ 9223372036854775807) :
    Calls Try.prog 43 #[.slice A n cap] w fun e w' => e = .returned (.string ⟨(sha (listL ls)).toArray⟩) ∧ Q w w' := by
  have hl : (listL ls).length ≤ 9223372036854775807 := by unfold listL; rw [List.length_append, itL_length, length_U32]; omega
  go_enter Try.func43, Try.ntmps43
  go_wp2_with fail
  refine (List_ok A n cap ls _ h hs hcap).mono ?_
  rintro e w1 ⟨rfl, hq1⟩
  go_wp2_with fail
  refine (Sum256_any _ _ hl).mono ?_
  rintro e w2 ⟨rfl, hq2⟩
  go_wp2_with fail
  go_ret
  exact ⟨rfl, hq1.trans hq2⟩
set_option maxHeartbeats 400000 in
theorem shfault_any (c a : Int) (w : World) :
    Calls Try.prog 40 #[.int .i64 c, .int .i64 a] w fun e w' => (∃ b, e = .returned (.iface 67 (.pointer (some ⟨b, 0, none⟩))) ∧ FaultAt w' b c a) ∧ Q w w' := by
  go_enter Try.func40, Try.ntmps40
  go_wp2
  go_ret
  exact ⟨⟨w.heap.size, rfl, (MapKept.heap_alloc w _).1⟩, (Q.refl _).alloc _⟩
def sizeI (n : Int) : Int := if n < 0 ∨ 10000 < n then 0 else 36 + n + 32 * ((n + 199) / 200)
set_option maxHeartbeats 400000 in
theorem Size_any (n : Int) (w : World) : Calls Try.prog 16 #[.int .i64 n] w fun e w' => e = .returned (.int .i64 (sizeI n)) ∧ w = w' := by
  by_cases h : n < 0 ∨ 10000 < n
  · have he : sizeI n = 0 := by unfold sizeI; rw [if_pos h]
    rw [he]
    rcases h with h | h
    · go_enter Try.func16, Try.ntmps16
      go_wp2
      go_ret
      exact ⟨rfl, rfl⟩
    · have h0 : ¬ n < 0 := by omega
      go_enter Try.func16, Try.ntmps16
      go_wp2
      go_ret
      exact ⟨rfl, rfl⟩
  · have he : sizeI n = 36 + n + 32 * ((n + 199) / 200) := by unfold sizeI; rw [if_neg h]
    have h0 : ¬ n < 0 := by omega
    have h1 : ¬ 10000 < n := by omega
    clear h
    rw [he]
    go_enter Try.func16, Try.ntmps16
    go_wp2
    go_ret
    exact ⟨ret_int (by omega), rfl⟩
set_option maxHeartbeats 400000 in
theorem SizeR_any (n : Int) (w : World) : Calls Try.prog 17 #[.int .i64 n] w fun e w' => e = .returned (.int .i64 (sizeI n)) ∧ w = w' := by
  by_cases h : n < 0 ∨ 10000 < n
  · have he : sizeI n = 0 := by unfold sizeI; rw [if_pos h]
    rw [he]
    rcases h with h | h
    · go_enter Try.func17, Try.ntmps17
      go_wp2
      go_ret
      exact ⟨rfl, rfl⟩
    · have h0 : ¬ n < 0 := by omega
      go_enter Try.func17, Try.ntmps17
      go_wp2
      go_ret
      exact ⟨rfl, rfl⟩
  · have he : sizeI n = 36 + n + 32 * ((n + 199) / 200) := by unfold sizeI; rw [if_neg h]
    have h0 : ¬ n < 0 := by omega
    have h1 : ¬ 10000 < n := by omega
    clear h
    rw [he]
    go_enter Try.func17, Try.ntmps17
    go_wp2
    go_ret
    exact ⟨ret_int (by omega), rfl⟩
end Go.Proofs.Yteadblkkbbhpjaa
