/- DigestKeys: what the law answers. -/
import Derived.Test.YteadblkkbbhpjaaExm
set_option linter.unusedVariables false
namespace Go.Proofs.Yteadblkkbbhpjaa
open Go Go.RowKit
theorem mac_sum (key s : List UInt8) (h : 64 < key.length) : mac (sha key) s = mac key s := by
  have h1 : keyOf key = sha key := by unfold keyOf; rw [if_pos h]
  have h2 : keyOf (sha key) = sha key := by unfold keyOf; rw [if_neg (by rw [sha_length]; omega)]
  unfold mac
  rw [h1, h2]
theorem mac_zeros (key s : List UInt8) (j : Nat) (h : key.length + j ≤ 64) : mac (key ++ List.replicate j 0) s = mac key s := by
  have h1 : keyOf key = key := by unfold keyOf; rw [if_neg (by omega)]
  have h2 : keyOf (key ++ List.replicate j 0) = key ++ List.replicate j 0 := by unfold keyOf; rw [if_neg (by simp; omega)]
  have h3 : keyB (key ++ List.replicate j 0) = keyB key := by
    unfold keyB
    rw [List.append_assoc, List.replicate_append_replicate]
    congr 2
    simp
    omega
  unfold mac
  rw [h1, h2, h3]
set_option maxRecDepth 100000 in
set_option maxHeartbeats 4000000 in
theorem DigestKeys_any (key s : List UInt8) (n : Int) (w : World) (hk : key.length ≤ 140737488355328) (hs : s.length ≤ 140737488355328) :
    Calls Try.prog 8 #[.string ⟨key.toArray⟩, .string ⟨s.toArray⟩, .int .i64 n] w fun e w' => e = .returned (.bool true) ∧ Q w w' := by
  by_cases h64 : 64 < key.length
  · have hd : decide ((64 : Int) < (key.length : Int)) = true := by simp; omega
    have hd2 : decide (64 < key.length) = true := by simp; omega
    have hm := mac_sum key s h64
    have HM := Lib.hid hm
    clear hm
    go_enter Try.func8, Try.ntmps8
    go_wp2_with fail
    with_reducible refine (examples_any _).mono ?_
    rintro e w1 ⟨rfl, hq1⟩
    have HQ1 := Lib.hid hq1
    clear hq1
    go_wp2_with fail
    with_reducible refine (MAC_any key s _ hs hk).mono ?_
    rintro e w2 ⟨rfl, hq2⟩
    have HQ2 := Lib.hid (HQ1.out.trans hq2)
    clear hq2 HQ1
    go_wp2_with fail
    with_reducible refine (Sum256_any key _ (by omega)).mono ?_
    rintro e w3 ⟨rfl, hq3⟩
    have HQ3 := Lib.hid (HQ2.out.trans hq3)
    clear hq3 HQ2
    go_wp2_with fail
    with_reducible refine (MAC_any (sha key) s _ hs (by rw [sha_length]; omega)).mono ?_
    rintro e w4 ⟨rfl, hq4⟩
    rw [HM.out]
    have HQ4 := Lib.hid (HQ3.out.trans hq4)
    clear hq4 HQ3
    go_wp2_with fail
    go_ret
    exact ⟨rfl, HQ4.out⟩
  · have hd : decide ((64 : Int) < (key.length : Int)) = false := by simp; omega
    have hd2 : decide (64 < key.length) = false := by simp; omega
    go_enter Try.func8, Try.ntmps8
    go_wp2_with fail
    with_reducible refine (examples_any _).mono ?_
    rintro e w1 ⟨rfl, hq1⟩
    have HQ1 := Lib.hid hq1
    clear hq1
    go_wp2_with fail
    go_loop [8, 9] (fun kv i => ∃ j : Nat, key.length + j ≤ 64 ∧ i = .int .i64 j ∧ kv = .string ⟨(key ++ List.replicate j 0).toArray⟩) (fun _ i => 65 - (intOf i).toNat)
    case atStart => exact ⟨0, by omega, rfl, by simp⟩
    case round =>
      obtain ⟨j, hj, rfl, rfl⟩ := hrel
      have hkl : (key ++ List.replicate j (0 : UInt8)).length = key.length + j := by simp
      have hsn : key ++ List.replicate (j + 1) (0 : UInt8) = (key ++ List.replicate j 0) ++ [0] := by rw [List.replicate_succ']; simp
      have hm := mac_zeros key s j hj
      generalize key ++ List.replicate j (0 : UInt8) = K at *
      have hKl : K.length ≤ 64 := by omega
      have HSN := Lib.hid hsn
      have HM := Lib.hid hm
      have HKL := Lib.hid hkl
      clear hsn hm hkl
      by_cases hjn : (j : Int) < n
      · have t1 : decide ((j : Int) < n) = true := by simpa using hjn
        by_cases hK : K.length < 64
        · have t2 : decide ((K.length : Int) < 64) = true := by simp; omega
          have t3 : decide (K.length < 64) = true := by simp; omega
          go_wp2_with fail
          go_round
          case rel => exact ⟨j + 1, by have := HKL.out; omega, by go_num, by rw [HSN.out]⟩
          case measure => simp [intOf]; omega
        · have t2 : decide ((K.length : Int) < 64) = false := by simp; omega
          have t3 : decide (K.length < 64) = false := by simp; omega
          go_wp2_with fail
          with_reducible refine (MAC_any K s _ hs (by omega)).mono ?_
          rintro e w2 ⟨rfl, hq2⟩
          rw [HM.out]
          have HQ2 := Lib.hid (HQ1.out.trans hq2)
          clear hq2
          go_wp2_with fail
          with_reducible refine (MAC_any key s _ hs hk).mono ?_
          rintro e w3 ⟨rfl, hq3⟩
          go_wp2_with fail
          go_ret
          exact ⟨rfl, HQ2.out.trans hq3⟩
      · have t1 : decide ((j : Int) < n) = false := by simpa using hjn
        go_wp2_with fail
        with_reducible refine (MAC_any K s _ hs (by omega)).mono ?_
        rintro e w2 ⟨rfl, hq2⟩
        rw [HM.out]
        have HQ2 := Lib.hid (HQ1.out.trans hq2)
        clear hq2
        go_wp2_with fail
        with_reducible refine (MAC_any key s _ hs hk).mono ?_
        rintro e w3 ⟨rfl, hq3⟩
        go_wp2_with fail
        go_ret
        exact ⟨rfl, HQ2.out.trans hq3⟩
end Go.Proofs.Yteadblkkbbhpjaa
