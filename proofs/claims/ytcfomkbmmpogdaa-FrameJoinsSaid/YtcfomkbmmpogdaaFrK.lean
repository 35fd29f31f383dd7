/- FrameSums, FrameJoins. -/
import Derived.Test.YtcfomkbmmpogdaaFrG
import Derived.Test.YtcfomkbmmpogdaaFrJ
set_option linter.unusedVariables false
namespace Go.Proofs.Ytcfomkbmmpogdaa
open Go Go.RowKit

set_option maxRecDepth 100000 in
set_option maxHeartbeats 1000000 in
theorem FrameSums_any (l : List UInt8) (a b n : Int) (w : World) (hl : l.length ≤ 140737488355328) (ha : 0 ≤ a ∧ a ≤ 4294967295) (hb : 0 ≤ b ∧ b ≤ 4294967295) :
    Calls Try.prog 7 #[.string ⟨l.toArray⟩, .int .u32 a, .int .u32 b, .int .i64 n] w fun x w' => x = .returned (.bool true) ∧ Q w w' := by
  obtain ⟨a, rfl⟩ := of32 a ha.1 (by omega)
  obtain ⟨b, rfl⟩ := of32 b hb.1 (by omega)
  clear ha hb
  have ht : (l.take 20000).length ≤ 140737488355328 := by rw [List.length_take]; omega
  go_enter Try.func7, Try.ntmps7
  go_wp2_with fail
  refine (known_any _).mono ?_
  rintro x w1 ⟨rfl, hq⟩
  go_wp2_with fail
  refine (cut_any _ _ _ (by omega) (by omega)).mono ?_
  rintro x w2 ⟨rfl, rfl⟩
  rw [show (20000 : Int).toNat = 20000 from rfl]
  generalize l.take 20000 = s at ht
  go_wp2_with fail
  refine (Sum_any _ _ ht).mono ?_
  rintro x w2 ⟨rfl, rfl⟩
  go_wp2_with fail
  refine (SumR_any _ _ ht).mono ?_
  rintro x w2 ⟨rfl, rfl⟩
  go_wp2_with fail
  refine (More_any _ _ _ ht).mono ?_
  rintro x w2 ⟨rfl, rfl⟩
  go_wp2_with fail
  refine (MoreR_any _ _ _ ht).mono ?_
  rintro x w2 ⟨rfl, rfl⟩
  go_wp2_with fail
  by_cases h : n < 0 ∨ 60000 < n
  · refine (Join_bad _ _ _ _ h).mono ?_
    rintro x w2 ⟨rfl, rfl⟩
    go_wp2_with fail
    refine (RJoin_bad _ _ _ _ h).mono ?_
    rintro x w2 ⟨rfl, rfl⟩
    go_wp2_with fail
    go_ret
    exact ⟨rfl, hq⟩
  · obtain ⟨k, rfl⟩ : ∃ k : Nat, n = (k : Int) := ⟨n.toNat, by omega⟩
    refine (Join_ok _ _ k _ (by omega)).mono ?_
    rintro x w2 ⟨rfl, hq2⟩
    have hR := RJoin_ok a b k
    generalize iterB a k ^^^ b = z at hR
    go_wp2_with fail
    refine (hR _ (by omega)).mono ?_
    rintro x w3 ⟨rfl, rfl⟩
    clear hR
    go_wp2_with fail
    go_ret
    exact ⟨rfl, hq.trans hq2⟩

set_option maxRecDepth 100000 in
set_option maxHeartbeats 1000000 in
theorem FrameJoins_any (a b : List UInt8) (w : World) (ha : a.length ≤ 140737488355328) (hb : b.length ≤ 140737488355328) :
    Calls Try.prog 8 #[.string ⟨a.toArray⟩, .string ⟨b.toArray⟩] w fun x w' => x = .returned (.bool true) ∧ Q w w' := by
  have h1 : (a.take 5000).length ≤ 5000 := by rw [List.length_take]; omega
  have h2 : (b.take 5000).length ≤ 5000 := by rw [List.length_take]; omega
  go_enter Try.func8, Try.ntmps8
  go_wp2_with fail
  refine (known_any _).mono ?_
  rintro x w1 ⟨rfl, hq⟩
  go_wp2_with fail
  refine (cut_any _ _ _ (by omega) (by omega)).mono ?_
  rintro x w2 ⟨rfl, rfl⟩
  rw [show (5000 : Int).toNat = 5000 from rfl]
  go_wp2_with fail
  refine (cut_any _ _ _ (by omega) (by omega)).mono ?_
  rintro x w2 ⟨rfl, rfl⟩
  rw [show (5000 : Int).toNat = 5000 from rfl]
  generalize a.take 5000 = x at h1
  generalize b.take 5000 = y at h2
  have e1 : crcMore (crcSum x) y = crcSum (x ++ y) := (crcMore_append 0#32 x y).symm
  have e2 : iterB (crcSum x) y.length ^^^ crcSum y = crcSum (x ++ y) := (crc_join x y).symm
  have E1 := Lib.hid e1
  have E2 := Lib.hid e2
  clear e1 e2
  go_wp2_with fail
  refine (Sum_any _ _ (by rw [List.length_append]; omega)).mono ?_
  rintro _ w2 ⟨rfl, rfl⟩
  generalize crcSum (x ++ y) = z at E1 E2
  go_wp2_with fail
  refine (Sum_any _ _ (by omega)).mono ?_
  rintro _ w2 ⟨rfl, rfl⟩
  go_wp2_with fail
  refine (More_any _ _ _ (by omega)).mono ?_
  rintro _ w2 ⟨rfl, rfl⟩
  rw [E1.out]
  go_wp2_with fail
  refine (Sum_any _ _ (by omega)).mono ?_
  rintro _ w2 ⟨rfl, rfl⟩
  go_wp2_with fail
  refine (Sum_any _ _ (by omega)).mono ?_
  rintro _ w2 ⟨rfl, rfl⟩
  go_wp2_with fail
  refine (Join_ok _ _ y.length _ (by omega)).mono ?_
  rintro _ w3 ⟨rfl, hq3⟩
  rw [E2.out]
  go_wp2_with fail
  go_ret
  exact ⟨rfl, hq.trans hq3⟩
end Go.Proofs.Ytcfomkbmmpogdaa
