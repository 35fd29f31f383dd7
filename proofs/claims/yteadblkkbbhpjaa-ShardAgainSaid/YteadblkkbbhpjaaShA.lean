/- Turning a number of 32 bits. -/
import Derived.Test.YteadblkkbbhpjaaSha
import Derived.Test.YteadblkkbbhpjaaBits
import Derived.Outline
import Derived.Laws.Shifts
set_option linter.unusedVariables false
namespace Go.Proofs.Yteadblkkbbhpjaa
open Go Go.RowKit
theorem rl_bits (s : Nat) (x : BitVec 32) (hs : s < 32) :
    bits .or .u32 (IntKind.u32.wrap ((x.toNat : Int) * 2 ^ s)) ((x.toNat : Int) / 2 ^ (32 - s)) = ((rl s x).toNat : Int) := by
  unfold rl
  rw [← or32]
  congr 1
  · rw [IntKind.wrap_u32, BitVec.toNat_shiftLeft, Nat.shiftLeft_eq, Int.natCast_emod, Int.natCast_mul, Int.natCast_pow]; rfl
  · rw [BitVec.toNat_ushiftRight, Nat.shiftRight_eq_div_pow, Int.natCast_ediv, Int.natCast_pow]; rfl
set_option maxHeartbeats 400000 in
theorem RotateLeft32_any (x : BitVec 32) (k : Int) (s : Nat) (w : World) (hs : s < 32) (h : bits .and .u64 (IntKind.u64.wrap k) 31 = (s : Int)) :
    Calls Try.prog 81 #[.int .u32 (x.toNat : Int), .int .i64 k] w fun e w' => e = .returned (.int .u32 ((rl s x).toNat : Int)) ∧ w = w' := by
  go_enter Try.func81, Try.ntmps81
  go_wp2_with fail
  go_ret
  refine ⟨ret_int ?_, rfl⟩
  rw [← rl_bits s x hs, IntKind.wrap_u32]
set_option maxHeartbeats 400000 in
theorem turn_any (x : BitVec 32) (k : Int) (s : Nat) (w : World) (h0 : 0 ≤ k) (h1 : k < 32) (hs : s < 32) (h : bits .and .u64 (IntKind.u64.wrap (-k)) 31 = (s : Int)) :
    Calls Try.prog 80 #[.int .u32 (x.toNat : Int), .int .i64 k] w fun e w' => e = .returned (.int .u32 ((rl s x).toNat : Int)) ∧ w = w' := by
  go_enter Try.func80, Try.ntmps80
  go_wp2_with fail
  refine (RotateLeft32_any x _ s _ hs h).mono ?_
  rintro e w1 ⟨rfl, rfl⟩
  go_wp2_with fail
  go_ret
  exact ⟨rfl, rfl⟩
/-- x turned k bits to the right. -/
def tr (k : Int) (x : B32) : B32 := rl (32 - k.toNat) x
theorem and31 : ∀ k : Nat, k < 32 → 0 < k → bits .and .u64 (IntKind.u64.wrap (-(k : Int))) 31 = ((32 - k : Nat) : Int) := by decide +kernel
theorem turnK (x : B32) (k : Int) (w : World) (h0 : 0 < k) (h1 : k < 32) : Calls Try.prog 80 #[.int .u32 (x.toNat : Int), .int .i64 k] w fun e w' => e = .returned (.int .u32 ((tr k x).toNat : Int)) ∧ w = w' := by
  refine turn_any x k (32 - k.toNat) w (by omega) h1 (by omega) ?_
  have := and31 k.toNat (by omega) (by omega)
  rw [show ((k.toNat : Nat) : Int) = k from by omega] at this
  exact this
theorem sr_val (n : Nat) (x : B32) : (x.toNat : Int) / 2 ^ n = ((sr n x).toNat : Int) := by
  unfold sr
  rw [BitVec.toNat_ushiftRight, Nat.shiftRight_eq_div_pow, Int.natCast_ediv, Int.natCast_pow]; rfl
theorem mixS_bits (x : B32) : bits .xor .u32 (bits .xor .u32 ((tr 7 x).toNat : Int) ((tr 18 x).toNat : Int)) ((x.toNat : Int) / 8) = ((mixS x).toNat : Int) := by
  rw [show (8 : Int) = 2 ^ 3 from by decide, sr_val, xor32, xor32]; rfl
theorem mixT_bits (x : B32) : bits .xor .u32 (bits .xor .u32 ((tr 17 x).toNat : Int) ((tr 19 x).toNat : Int)) ((x.toNat : Int) / 1024) = ((mixT x).toNat : Int) := by
  rw [show (1024 : Int) = 2 ^ 10 from by decide, sr_val, xor32, xor32]; rfl
theorem ad_val (x y : B32) : ((ad x y).toNat : Int) = ((x.toNat : Int) + (y.toNat : Int)) % 4294967296 := (add32 x y).symm
end Go.Proofs.Yteadblkkbbhpjaa
