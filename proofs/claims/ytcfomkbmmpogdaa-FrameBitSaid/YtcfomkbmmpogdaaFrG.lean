/- The chapter's examples: known. -/
import Derived.Test.YtcfomkbmmpogdaaFrE
import Derived.Test.YtcfomkbmmpogdaaFrF
set_option linter.unusedVariables false
namespace Go.Proofs.Ytcfomkbmmpogdaa
open Go Go.RowKit

set_option maxHeartbeats 400000 in
theorem Num_ok (n : Int) (w : World) (h0 : 0 ≤ n) (h1 : n ≤ 4294967295) :
    Calls Try.prog 23 #[.int .i64 n] w fun e w' => e = .returned (.tuple #[.string ⟨(U32 n).toArray⟩, .nilIface]) ∧ Q w w' := by
  go_enter Try.func23, Try.ntmps23
  go_wp2_with fail
  refine (u32_any _ _ (by omega) (by omega)).mono ?_
  rintro e w1 ⟨rfl, hq1⟩
  go_wp2_with fail
  go_ret2
  exact ⟨rfl, hq1⟩
set_option maxHeartbeats 400000 in
theorem Num_bad (n : Int) (w : World) (h : n < 0 ∨ 4294967295 < n) :
    Calls Try.prog 23 #[.int .i64 n] w fun e w' => ∃ ev, e = .returned (.tuple #[.string ⟨#[]⟩, ev]) ∧ ErrIs w' ev 1 0 ∧ Q w w' := by
  by_cases h0 : n < 0
  · go_enter Try.func23, Try.ntmps23
    go_wp2_with fail
    refine (fault_any _ _ _).mono ?_
    rintro e w1 ⟨⟨b, rfl, hf⟩, hq1⟩
    go_wp2_with fail
    go_ret2
    exact ⟨_, rfl, .inr ⟨by decide, b, rfl, hf⟩, hq1⟩
  · have h1 : 4294967295 < n := by omega
    clear h
    go_enter Try.func23, Try.ntmps23
    go_wp2_with fail
    refine (fault_any _ _ _).mono ?_
    rintro e w1 ⟨⟨b, rfl, hf⟩, hq1⟩
    go_wp2_with fail
    go_ret2
    exact ⟨_, rfl, .inr ⟨by decide, b, rfl, hf⟩, hq1⟩

/-! What the examples come to, in numbers. -/
def kL : List UInt8 := listL [[97], []]
def kP : List UInt8 := packL 7 1 [97, 98]
theorem k_split : splitL kL = ([[97], []], 0, 0) := by decide +kernel
theorem k_split2 : splitL (kL ++ [120]) = ([], 20, 13) := by decide +kernel
theorem k_len : kL.length = 13 := by decide +kernel
theorem k_plen : kP.length = 64 := by decide +kernel
theorem k_unp : UnpOk kP 7 1 := by unfold UnpOk; decide +kernel
theorem k_unp2 : ¬ UnpOk kP 7 2 := by unfold UnpOk; decide +kernel
theorem k_n : nAt kP 4 = 2 := by decide +kernel
theorem k_p : sub kP 24 26 = [97, 98] := by decide +kernel
theorem k_e : endsN 2 = 64 := by decide +kernel
theorem k_num : U32 258 = [0, 0, 1, 2] := by decide +kernel
theorem k_sum : ((crcSum [49, 50, 51, 52, 53, 54, 55, 56, 57]).toNat : Int) = 3808858755 := by decide +kernel
theorem k_more : ((crcMore (crcSum [49, 50, 51, 52]) [53, 54, 55, 56, 57]).toNat : Int) = 3808858755 := by decide +kernel

set_option maxRecDepth 100000 in
set_option maxHeartbeats 2000000 in
theorem known_any (w : World) : Calls Try.prog 9 #[] w fun e w' => e = .returned (.bool true) ∧ Q w w' := by
  have lk := k_len
  have lp := k_plen
  go_enter Try.func9, Try.ntmps9
  go_wp2_with fail
  refine (Num_ok _ _ (by omega) (by omega)).mono ?_
  rintro e w1 ⟨rfl, hq⟩
  rw [k_num]
  go_wp2_with fail
  refine (Num_bad _ _ (by omega)).mono ?_
  rintro e w2 ⟨ev2, rfl, he2, hq2⟩
  have hq := hq.trans hq2
  clear hq2
  go_wp2_with fail
  refine (List_ok _ 2 2 [[97], []] _ (StrsAt_new w2 _ [[97], []]) (by decide) (by omega)).mono ?_
  rintro e w3 ⟨rfl, hq3⟩
  have he2 := he2.q (((Q.refl _).alloc _).trans hq3)
  have hq := (hq.alloc _).trans hq3
  clear hq3
  have hk : listL [[97], []] = kL := rfl
  rw [hk]
  clear hk
  go_wp2_with fail
  refine (Split_any _ _ (by omega)).mono ?_
  rintro e w4 ⟨A, cap, ev4, rfl, hcap1, hcap2, hst, he4, hq4⟩
  rw [k_split] at hcap1 hst he4
  have hlen : (splitL kL).1.length = 2 := by rw [k_split]; rfl
  rw [hlen]
  clear hlen
  obtain ⟨_, rfl⟩ := he4.resolve_right (fun x => x.1 rfl)
  clear he4
  have he2 := he2.q hq4
  have hq := hq.trans hq4
  clear hq4
  go_wp2_with fail
  refine (Split_any _ _ (by simp; omega)).mono ?_
  rintro e w5 ⟨A', cap', ev5, rfl, _, _, _, he5, hq5⟩
  rw [k_split2] at he5
  have hlen : (splitL (kL ++ [120])).1.length = 0 := by rw [k_split2]; rfl
  rw [hlen]
  clear hlen
  have he2 := he2.q hq5
  have hst := hst.q hq5
  have hq := hq.trans hq5
  clear hq5
  go_wp2_with fail
  refine (Pack_ok _ _ [97, 98] _ (by decide) (by decide)).mono ?_
  rintro e w6 ⟨rfl, hq6⟩
  have hk : packL 7 1 [97, 98] = kP := rfl
  rw [hk]
  clear hk
  have he2 := he2.q hq6
  have he5 := he5.q hq6
  have hst := hst.q hq6
  have hq := hq.trans hq6
  clear hq6
  go_wp2_with fail
  refine (Unpack_ok kP 7 1 _ (by omega) k_unp).mono ?_
  rintro e w7 ⟨rfl, hq7⟩
  rw [k_n]
  have hk1 : sub kP 24 (24 + 2) = [97, 98] := k_p
  have hk2 : endsN ((2 : Nat) : Int) = 64 := k_e
  rw [hk1, hk2]
  clear hk1 hk2
  have he2 := he2.q hq7
  have he5 := he5.q hq7
  have hst := hst.q hq7
  have hq := hq.trans hq7
  clear hq7
  go_wp2_with fail
  refine (Unpack_bad kP 7 2 _ (by omega) k_unp2).mono ?_
  rintro e w8 ⟨ev8, rfl, he8, hq8⟩
  have he2 := he2.q hq8
  have he5 := he5.q hq8
  have hst := hst.q hq8
  have hq := hq.trans hq8
  clear hq8
  go_wp2_with fail
  refine (is_any _ _ _ _ he2).mono ?_
  rintro e w9 ⟨rfl, hq9⟩
  have he5 := he5.q hq9
  have he8 := he8.q hq9
  have hst := hst.q hq9
  have hq := hq.trans hq9
  clear hq9
  go_wp2_with fail
  refine (is_any _ _ _ _ he5).mono ?_
  rintro e w10 ⟨rfl, hq10⟩
  have he8 := he8.q hq10
  have hst := hst.q hq10
  have hq := hq.trans hq10
  clear hq10
  go_wp2_with fail
  refine (is_any _ _ _ _ he8).mono ?_
  rintro e w11 ⟨rfl, hq11⟩
  have hst := hst.q hq11
  have hq := hq.trans hq11
  clear hq11 he2 he5 he8
  obtain ⟨ad, rfl, hc0⟩ := hst.at (i := 0) (by decide)
  obtain ⟨ad', hae, hc1⟩ := hst.at (i := 1) (by decide)
  cases hae
  clear hst
  have hc0 : w11.cell? ad = some (.string ⟨[(97 : UInt8)].toArray⟩) := hc0
  have hc1 : w11.cell? ⟨ad.block, ad.off + 1, none⟩ = some (.string ⟨([] : List UInt8).toArray⟩) := hc1
  have s1 := k_sum
  have s2 := k_more
  go_wp2_with fail
  refine (Sum_any _ _ (by decide)).mono ?_
  rintro e w12 ⟨rfl, rfl⟩
  rw [s1]
  go_wp2_with fail
  refine (Sum_any _ _ (by decide)).mono ?_
  rintro e w12 ⟨rfl, rfl⟩
  go_wp2_with fail
  refine (More_any _ _ _ (by decide)).mono ?_
  rintro e w12 ⟨rfl, rfl⟩
  rw [s2]
  go_wp2_with fail
  go_ret
  exact ⟨rfl, hq⟩

set_option maxRecDepth 100000 in
set_option maxHeartbeats 1000000 in
theorem FramePacks_any (e n : Int) (p : List UInt8) (w : World) (hl : p.length ≤ 140737488355328) :
    Calls Try.prog 3 #[.int .i64 e, .int .i64 n, .string ⟨p.toArray⟩] w fun x w' => x = .returned (.bool true) ∧ Q w w' := by
  by_cases h : rightB e n = true ∧ p.length ≤ 60000
  · go_enter Try.func3, Try.ntmps3
    go_wp2_with fail
    refine (known_any _).mono ?_
    rintro x w1 ⟨rfl, hq1⟩
    go_wp2_with fail
    refine (Pack_ok e n p _ h.2 h.1).mono ?_
    rintro x w2 ⟨rfl, hq2⟩
    go_wp2_with fail
    refine (RPack_ok e n p _ h.2 h.1).mono ?_
    rintro x w3 ⟨rfl, hq3⟩
    go_wp2_with fail
    refine (is_any _ _ _ _ (.inl ⟨rfl, rfl⟩)).mono ?_
    rintro x w4 ⟨rfl, hq4⟩
    go_wp2_with fail
    go_ret
    exact ⟨by simp, ((hq1.trans hq2).trans hq3).trans hq4⟩
  · have h' : rightB e n = false ∨ 60000 < p.length := by
      by_cases h1 : rightB e n = true
      · refine .inr ?_
        rcases Nat.lt_or_ge 60000 p.length with h2 | h2
        · exact h2
        · exact (h ⟨h1, h2⟩).elim
      · exact .inl (by simpa using h1)
    go_enter Try.func3, Try.ntmps3
    go_wp2_with fail
    refine (known_any _).mono ?_
    rintro x w1 ⟨rfl, hq1⟩
    go_wp2_with fail
    refine (Pack_bad e n p _ hl h').mono ?_
    rintro x w2 ⟨ev, rfl, he, hq2⟩
    go_wp2_with fail
    refine (RPack_bad e n p _ hl h').mono ?_
    rintro x w3 ⟨rfl, rfl⟩
    go_wp2_with fail
    refine (is_any _ _ _ _ he).mono ?_
    rintro x w4 ⟨rfl, hq4⟩
    go_wp2_with fail
    go_ret
    exact ⟨by simp, (hq1.trans hq2).trans hq4⟩
end Go.Proofs.Ytcfomkbmmpogdaa
