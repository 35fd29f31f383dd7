/- The reference's turns; a text with a bit 1, bits 0 and its size. -/
import Derived.Test.YteadblkkbbhpjaaHsE
import Derived.Test.YteadblkkbbhpjaaQt
import Derived.Test.YteadblkkbbhpjaaByt
import Derived.Deep.DeepCutAuto
set_option linter.unusedVariables false
namespace Go.Proofs.Yteadblkkbbhpjaa
open Go Go.RowKit
theorem rr_bits (k : Nat) (x : B32) : bits .or .u32 ((x.toNat : Int) / 2 ^ k) (IntKind.u32.wrap ((x.toNat : Int) * 2 ^ (32 - k))) = (((x >>> k) ||| (x <<< (32 - k))).toNat : Int) := by
  rw [← or32]
  congr 1
  · rw [BitVec.toNat_ushiftRight, Nat.shiftRight_eq_div_pow, Int.natCast_ediv, Int.natCast_pow]; rfl
  · rw [IntKind.wrap_u32, BitVec.toNat_shiftLeft, Nat.shiftLeft_eq, Int.natCast_emod, Int.natCast_mul, Int.natCast_pow]; rfl
theorem ll_bits (k : Nat) (x : B32) : bits .or .u32 (IntKind.u32.wrap ((x.toNat : Int) * 2 ^ k)) ((x.toNat : Int) / 2 ^ (32 - k)) = ((rl k x).toNat : Int) := by
  unfold rl
  rw [← or32]
  congr 1
  · rw [IntKind.wrap_u32, BitVec.toNat_shiftLeft, Nat.shiftLeft_eq, Int.natCast_emod, Int.natCast_mul, Int.natCast_pow]; rfl
  · rw [BitVec.toNat_ushiftRight, Nat.shiftRight_eq_div_pow, Int.natCast_ediv, Int.natCast_pow]; rfl
theorem tr_or (k : Nat) (hk : k ≤ 32) (x : B32) : (x >>> k) ||| (x <<< (32 - k)) = tr (k : Int) x := by
  unfold tr rl
  rw [BitVec.or_comm, Int.toNat_natCast, show 32 - (32 - k) = k from by omega]
set_option maxHeartbeats 1000000 in
theorem right01_any (x : B32) (n : Nat) (w : World) (h0 : 0 < n) (h1 : n < 32) : Calls Try.prog 74 #[.int .u32 (x.toNat : Int), .int .i64 (n : Int)] w fun e w' => e = .returned (.int .u32 ((tr (n : Int) x).toNat : Int)) ∧ Q w w' := by
  have hb := rr_bits n x
  have hb2 := hb
  rw [IntKind.wrap_u32] at hb2
  rw [tr_or n (by omega)] at hb hb2
  go_enter Try.func74, Try.ntmps74
  go_wp2_with fail
  refine wp_region_q (by kernel_rfl) (by kernel_rfl) ?_
  repeat (go_big_quiet_step (fail))
  refine wpQuiet_nil ?_
  rintro _ ⟨⟨w1, hq1⟩, rfl⟩
  go_wp2_with fail
  go_ret
  exact ⟨rfl, hq1⟩
theorem rightK (x : B32) (k : Int) (w : World) (h0 : 0 < k) (h1 : k < 32) : Calls Try.prog 74 #[.int .u32 (x.toNat : Int), .int .i64 k] w fun e w' => e = .returned (.int .u32 ((tr k x).toNat : Int)) ∧ Q w w' := by
  have h := right01_any x k.toNat w (by omega) (by omega)
  rw [show ((k.toNat : Nat) : Int) = k from by omega] at h
  exact h
set_option maxHeartbeats 1000000 in
theorem left01_any (x : B32) (n : Nat) (w : World) (h0 : 0 < n) (h1 : n < 32) : Calls Try.prog 60 #[.int .u32 (x.toNat : Int), .int .i64 (n : Int)] w fun e w' => e = .returned (.int .u32 ((rl n x).toNat : Int)) ∧ Q w w' := by
  have hb := ll_bits n x
  have hb2 := hb
  rw [IntKind.wrap_u32] at hb2
  go_enter Try.func60, Try.ntmps60
  go_wp2_with fail
  refine wp_region_q (by kernel_rfl) (by kernel_rfl) ?_
  repeat (go_big_quiet_step (fail))
  refine wpQuiet_nil ?_
  rintro _ ⟨⟨w1, hq1⟩, rfl⟩
  go_wp2_with fail
  go_ret
  exact ⟨rfl, hq1⟩
theorem bytesL_lo (k : Nat) (hk : k < 8) {n : Nat} : gB (bytesL false n 8) k = byN n k := by
  unfold bytesL gB; simp [List.getD, hk]
theorem bytesL_hi (k : Nat) (hk : k < 8) {n : Nat} : gB (bytesL true n 8) k = byN n (7 - k) := by
  unfold bytesL gB; simp [List.getD, hk]
def lenS : Value → Nat
  | .slice _ n _ => n
  | _ => 0
/-- How many bits 0: as the reference counts them. -/
def fillN (n : Nat) : Nat := (119 - n % 64) % 64
set_option maxRecDepth 100000 in
set_option maxHeartbeats 4000000 in
theorem padded_any (l : List UInt8) (hi : Bool) (w : World) (hl : l.length ≤ 140737488355500) :
    Calls Try.prog 59 #[.string ⟨l.toArray⟩, .bool hi] w fun e w' => ∃ v, e = .returned v ∧ OwnB w w' v (padA hi l) ∧ Q w w' := by
  obtain ⟨v1, w1, hcv, hown1, hq1, cap1, hv1⟩ := bytes_of l w (by omega)
  rw [hv1] at hcv hown1
  have HO := Lib.hid hown1
  have HQ := Lib.hid hq1
  clear hown1 hq1 hv1
  go_enter Try.func59, Try.ntmps59
  go_upto_region 2 with (fail)
  clear hcv
  go_wp2_with (at_builtin; refine wpList_append_b rfl (.tmp 11) (.tmp 12) rfl w w1 _ l (by rfl) HO.out HQ.out [128] 1 rfl (by rfl) (by omega) ?_; intro v2 w2 hown2 hq2 _; have HO2 := Lib.hid hown2; have HQ2 := Lib.hid hq2; clear hown2 hq2)
  clear HO HQ
  go_loopw [5] (fun v wr => ∃ (k L : Nat) (A : Option Addr) (cap : Nat), k ≤ fillN l.length ∧ Hid (L = l.length + 1 + k) ∧ L ≤ 140737488355650 ∧ v = .slice A L cap ∧ OwnB w wr (.slice A L cap) (l ++ 128 :: List.replicate k 0) ∧ Q w wr) (fun v _ => l.length + 1 + fillN l.length - lenS v)
  case atStart =>
    obtain ⟨A, cap, hv, _⟩ := HO2.out.form
    have e : (l ++ [(128 : UInt8)]).length = l.length + 1 := by simp
    rw [e] at hv
    have h2 := HO2.out
    rw [hv] at h2
    exact ⟨0, l.length + 1, A, cap, by omega, Lib.hid rfl, by omega, hv, h2, HQ2.out⟩
  case round =>
    obtain ⟨k, L, A, cap, hk, hL, hL2, rfl, hown, hq⟩ := hrel
    have hLe := hL.out
    by_cases hlt : k < fillN l.length
    · have hb : ((L : Int) % 64 != 56) = true := by unfold fillN at hlt; rw [hLe]; simp; omega
      have hlen : (l ++ 128 :: List.replicate k (0 : UInt8)).length = L := by rw [hLe]; simp; omega
      have HK := Lib.hid hk
      have HLL := Lib.hid hlen
      have HOO := Lib.hid hown
      have HQQ := Lib.hid hq
      clear hLe hown hq hlen hk HO2 HQ2
      go_wp2_with (at_builtin; refine wpList_append_b rfl (.tmp 18) (.tmp 19) rfl w wr _ (l ++ 128 :: List.replicate k 0) (by rfl) HOO.out HQQ.out [0] 1 rfl (by rfl) (by rw [HLL.out]; omega) ?_; intro v2 w3 hown2 hq2 _; have HO2 := Lib.hid hown2; have HQ2 := Lib.hid hq2; clear hown2 hq2)
      go_roundw
      case rel =>
        obtain ⟨A', cap', hv, _⟩ := HO2.out.form
        have e : l ++ 128 :: List.replicate k (0 : UInt8) ++ [0] = l ++ 128 :: List.replicate (k + 1) 0 := by rw [List.replicate_succ']; simp
        have e2 : (l ++ 128 :: List.replicate k (0 : UInt8) ++ [0]).length = L + 1 := by rw [List.length_append, HLL.out]; rfl
        rw [e2] at hv
        have h2 := HO2.out
        rw [hv, e] at h2
        exact ⟨k + 1, L + 1, A', cap', by omega, Lib.hid (by rw [hL.out]; omega), by have := hL.out; unfold fillN at hlt; omega, hv, h2, HQ2.out⟩
      case measure =>
        obtain ⟨A', cap', hv, _⟩ := HO2.out.form
        have e2 : (l ++ 128 :: List.replicate k (0 : UInt8) ++ [0]).length = L + 1 := by rw [List.length_append, HLL.out]; rfl
        rw [e2] at hv
        rw [hv]
        have := hL.out
        show l.length + 1 + fillN l.length - (L + 1) < l.length + 1 + fillN l.length - L
        omega
    · have hkk : k = fillN l.length := by omega
      have hb : ((L : Int) % 64 != 56) = false := by unfold fillN at hkk; rw [hLe, hkk]; simp; omega
      have hw8 : IntKind.u64.wrap ((l.length : Int) * 8) = ((8 * l.length % 18446744073709551616 : Nat) : Int) := by rw [IntWalk_u64]; omega
      have hpad : padA hi l = l ++ 128 :: List.replicate k 0 ++ bytesL hi (8 * l.length % 18446744073709551616) 8 := by unfold padA; rw [hkk]; rfl
      have hl3 : (l ++ 128 :: List.replicate k (0 : UInt8)).length ≤ 140737488355650 := by rw [show (l ++ 128 :: List.replicate k (0 : UInt8)).length = L from by rw [hLe]; simp; omega]; omega
      generalize 8 * l.length % 18446744073709551616 = S8 at *
      generalize l ++ 128 :: List.replicate k (0 : UInt8) = B at *
      have HPAD := Lib.hid hpad
      have HL3 := Lib.hid hl3
      have HOO := Lib.hid hown
      have HQQ := Lib.hid hq
      clear hLe hown hq hkk hpad hL HO2 HQ2 hl3 hlt
      go_wp2_with fail
      clear hw8 hb hL2
      go_loopw [5, 7] (fun v i wz => ∃ k : Nat, k ≤ 8 ∧ i = .int .i64 k ∧ OwnB w wz v (B ++ (bytesL hi S8 8).take k) ∧ Q w wz) (fun _ i _ => 8 - (intOf i).toNat)
      case atStart => exact ⟨0, by omega, rfl, by simpa using HOO.out, HQQ.out⟩
      case round =>
        obtain ⟨k, hk, rfl, hown, hq⟩ := hrel
        by_cases hlt : k < 8
        · have hd : decide ((k : Int) < 8) = true := by simp; omega
          have hsn : (bytesL hi S8 8).take (k + 1) = (bytesL hi S8 8).take k ++ [gB (bytesL hi S8 8) k] := by
            rw [List.take_succ_eq_append_getElem (by rw [bytesL_length]; exact hlt)]
            simp [gB, List.getD, bytesL_length, hlt]
          have hlk : (B ++ (bytesL hi S8 8).take k).length + 1 ≤ 140737488355660 := by rw [List.length_append, List.length_take, bytesL_length]; have := HL3.out; omega
          have HSN := Lib.hid hsn
          have HLK := Lib.hid hlk
          have HOZ := Lib.hid hown
          have HQZ := Lib.hid hq
          clear hsn hlk hown hq HOO HQQ
          cases hi
          · have hx : (S8 : Int) / 2 ^ (8 * k) % 256 = ((gB (bytesL false S8 8) k).toNat : Int) := by rw [shr8, bytesL_lo k hlt]
            go_wp2_with (at_builtin; refine wpList_append_b rfl (.tmp 35) (.tmp 40) rfl w wr _ (B ++ (bytesL false S8 8).take k) (by rfl) HOZ.out HQZ.out [gB (bytesL false S8 8) k] 1 rfl (by rfl) (by have := HLK.out; omega) ?_; intro v2 w3 hown2 hq2 _; have HO2 := Lib.hid hown2; have HQ2 := Lib.hid hq2; clear hown2 hq2)
            go_roundw
            case rel => exact ⟨k + 1, by omega, by go_num, by rw [HSN.out, ← List.append_assoc]; exact HO2.out, HQ2.out⟩
            case measure => simp [intOf]; omega
          · have hx : (S8 : Int) / 2 ^ (56 - 8 * k) % 256 = ((gB (bytesL true S8 8) k).toNat : Int) := by rw [show 56 - 8 * k = 8 * (7 - k) from by omega, shr8, bytesL_hi k hlt]
            go_wp2_with (at_builtin; refine wpList_append_b rfl (.tmp 35) (.tmp 40) rfl w wr _ (B ++ (bytesL true S8 8).take k) (by rfl) HOZ.out HQZ.out [gB (bytesL true S8 8) k] 1 rfl (by rfl) (by have := HLK.out; omega) ?_; intro v2 w3 hown2 hq2 _; have HO2 := Lib.hid hown2; have HQ2 := Lib.hid hq2; clear hown2 hq2)
            go_roundw
            case rel => exact ⟨k + 1, by omega, by go_num, by rw [HSN.out, ← List.append_assoc]; exact HO2.out, HQ2.out⟩
            case measure => simp [intOf]; omega
        · obtain rfl : k = 8 := by omega
          rw [List.take_of_length_le (by rw [bytesL_length]; exact Nat.le_refl _), ← HPAD.out] at hown
          have HOZ := Lib.hid hown
          have HQZ := Lib.hid hq
          clear hown hq
          go_wp2_with fail
          go_ret
          exact ⟨_, rfl, HOZ.out, HQZ.out⟩
end Go.Proofs.Yteadblkkbbhpjaa
