/- frame's small functions. -/
import Derived.Test.YtcfomkbmmpogdaaBase
import Derived.Test.YtcfomkbmmpogdaaBits
import Derived.Test.YtcfomkbmmpogdaaCrc
import Derived.Outline
set_option linter.unusedVariables false
namespace Go.Proofs.Ytcfomkbmmpogdaa
open Go Go.RowKit
def U32 (n : Int) : List UInt8 := [byteOf (n / 16777216 % 256), byteOf (n / 65536 % 256), byteOf (n / 256 % 256), byteOf (n % 256)]
def r32 (l : List UInt8) : Int := (gB l 0).toNat * 16777216 + (gB l 1).toNat * 65536 + (gB l 2).toNat * 256 + (gB l 3).toNat
theorem length_U32 (n : Int) : (U32 n).length = 4 := rfl

set_option maxHeartbeats 400000 in
theorem u32_any (n : Int) (w : World) (h0 : 0 ≤ n) (h1 : n ≤ 9223372036854775807) :
    Calls Try.prog 26 #[.int .i64 n] w fun e w' => e = .returned (.string ⟨(U32 n).toArray⟩) ∧ Q w w' := by
  have hc : ∀ (w : World) (cap : Nat), (convert 40 9 (.slice (some ⟨w.heap.size, 0, none⟩) 4 cap)).run Try.prog (w.alloc (.cells #[.int .u8 (n / 16777216 % 256), .int .u8 (n / 65536 % 256), .int .u8 (n / 256 % 256), .int .u8 (n % 256)] 5)) =
      .ok (.string ⟨(U32 n).toArray⟩) (w.alloc (.cells #[.int .u8 (n / 16777216 % 256), .int .u8 (n / 65536 % 256), .int .u8 (n / 256 % 256), .int .u8 (n % 256)] 5)) :=
    fun w cap => conv_bytes4 w _ _ _ cap _ _ _ _ Try.underlying40 Try.underlying5 Try.underlying9 (by omega) (by omega) (by omega) (by omega)
  go_enter Try.func26, Try.ntmps26
  go_wp2
  go_ret
  exact ⟨rfl, (Q.refl _).alloc _⟩
set_option maxHeartbeats 400000 in
theorem U32_any (n : Int) (w : World) (h0 : 0 ≤ n) (h1 : n ≤ 9223372036854775807) :
    Calls Try.prog 29 #[.int .i64 n] w fun e w' => e = .returned (.string ⟨(U32 n).toArray⟩) ∧ Q w w' := by
  have hc : ∀ (w : World) (cap : Nat), (convert 40 9 (.slice (some ⟨w.heap.size, 0, none⟩) 4 cap)).run Try.prog (w.alloc (.cells #[.int .u8 (n / 16777216 % 256), .int .u8 (n / 65536 % 256), .int .u8 (n / 256 % 256), .int .u8 (n % 256)] 5)) =
      .ok (.string ⟨(U32 n).toArray⟩) (w.alloc (.cells #[.int .u8 (n / 16777216 % 256), .int .u8 (n / 65536 % 256), .int .u8 (n / 256 % 256), .int .u8 (n % 256)] 5)) :=
    fun w cap => conv_bytes4 w _ _ _ cap _ _ _ _ Try.underlying40 Try.underlying5 Try.underlying9 (by omega) (by omega) (by omega) (by omega)
  go_enter Try.func29, Try.ntmps29
  go_wp2
  go_ret
  exact ⟨rfl, (Q.refl _).alloc _⟩

set_option maxHeartbeats 400000 in
theorem read32_any (l : List UInt8) (w : World) (h0 : 4 ≤ l.length) :
    Calls Try.prog 36 #[.string ⟨l.toArray⟩] w fun e w' => e = .returned (.int .i64 (r32 l)) ∧ Q w w' := by
  have b0 := gB_lt l 0
  have b1 := gB_lt l 1
  have b2 := gB_lt l 2
  have b3 := gB_lt l 3
  have hr : bits .or .i64 (bits .or .i64 (bits .or .i64 (((gB l 0).toNat : Int) * 16777216) (((gB l 1).toNat : Int) * 65536)) (((gB l 2).toNat : Int) * 256)) ((gB l 3).toNat : Int) = r32 l :=
    or_four _ _ _ _ (by omega) (by omega) (by omega) (by omega) (by omega) (by omega) (by omega) (by omega)
  go_enter Try.func36, Try.ntmps36
  go_wp2
  refine wp_region_q (by kernel_rfl) (by kernel_rfl) ?_
  repeat (go_big_quiet_step (fail))
  refine wpQuiet_nil ?_
  rintro _ ⟨⟨w1, hq1⟩, rfl⟩
  go_wp2
  go_ret
  exact ⟨rfl, hq1⟩

def endsN (n : Int) : Int := (n + 87) / 64 * 64
set_option maxHeartbeats 400000 in
theorem ends_any (n : Int) (w : World) (h0 : 0 ≤ n) (h1 : n ≤ 4294967296) :
    Calls Try.prog 28 #[.int .i64 n] w fun e w' => e = .returned (.int .i64 (endsN n)) ∧ w = w' := by
  go_enter Try.func28, Try.ntmps28
  go_wp2
  go_ret
  exact ⟨ret_int (by unfold endsN; omega), rfl⟩
set_option maxHeartbeats 400000 in
theorem Sectors_any (n : Int) (w : World) (h0 : 0 ≤ n) (h1 : n ≤ 4294967296) :
    Calls Try.prog 31 #[.int .i64 n] w fun e w' => e = .returned (.int .i64 ((n + 63) / 64)) ∧ w = w' := by
  go_enter Try.func31, Try.ntmps31
  go_wp2
  go_ret
  exact ⟨ret_int (by omega), rfl⟩

def rightB (e n : Int) : Bool := decide (0 ≤ e ∧ e ≤ 4611686018427387904 ∧ 0 ≤ n ∧ n ≤ 4294967295)
set_option maxHeartbeats 400000 in
theorem right_any (e n : Int) (w : World) :
    Calls Try.prog 24 #[.int .i64 e, .int .i64 n] w fun x w' => x = .returned (.bool (rightB e n)) ∧ w = w' := by
  go_enter Try.func24, Try.ntmps24
  go_wp2
  all_goals (go_ret; exact ⟨ret_eq (congrArg Value.bool (by unfold rightB; rw [Bool.eq_iff_iff]; simp; omega)), rfl⟩)

set_option maxHeartbeats 400000 in
theorem cut_any (l : List UInt8) (n : Int) (w : World) (h0 : 0 ≤ n) (hl : l.length ≤ 9223372036854775807) :
    Calls Try.prog 13 #[.string ⟨l.toArray⟩, .int .i64 n] w fun e w' => e = .returned (.string ⟨(l.take n.toNat).toArray⟩) ∧ w = w' := by
  by_cases h : n < l.length
  · go_enter Try.func13, Try.ntmps13
    go_wp2
    go_ret
    exact ⟨rfl, rfl⟩
  · go_enter Try.func13, Try.ntmps13
    go_wp2
    go_ret
    exact ⟨by rw [List.take_of_length_le (by omega)]; rfl, rfl⟩

theorem and1_32 (y : BitVec 32) : (bits .and .u32 (y.toNat : Int) 1 == 1) = decide (y &&& 1#32 = 1#32) := by
  have e : (1 : Int) = ((1#32).toNat : Int) := by decide
  rw [e, and32, Bool.eq_iff_iff]
  simp only [beq_iff_eq, decide_eq_true_eq]
  rw [← BitVec.toNat_inj]; omega
theorem poly32 (y : BitVec 32) : bits .xor .u32 ((y.toNat : Int) / 2) 2197175160 = (((y >>> 1) ^^^ 0x82F63B78#32).toNat : Int) := by
  have e : (2197175160 : Int) = ((0x82F63B78#32).toNat : Int) := by decide
  rw [e, shr32, xor32]
theorem sh1_odd {y : BitVec 32} (h : (bits .and .u32 (y.toNat : Int) 1 == 1) = true) : bits .xor .u32 ((y.toNat : Int) / 2) 2197175160 = ((sh1 y).toNat : Int) := by
  rw [and1_32] at h
  rw [poly32, sh1, if_pos (of_decide_eq_true h)]
theorem sh1_even {y : BitVec 32} (h : (bits .and .u32 (y.toNat : Int) 1 == 1) = false) : (y.toNat : Int) / 2 = ((sh1 y).toNat : Int) := by
  rw [and1_32] at h
  rw [shr32, sh1, if_neg (of_decide_eq_false h)]

set_option maxHeartbeats 400000 in
theorem shift_any (r : BitVec 32) (b : UInt8) (w : World) :
    Calls Try.prog 38 #[.int .u32 (r.toNat : Int), .int .u8 (b.toNat : Int)] w fun e w' => e = .returned (.int .u32 ((shB r b).toNat : Int)) ∧ w = w' := by
  have r1 := r.isLt
  have b1 := b.toNat_lt
  have hx : bits .xor .u32 (r.toNat : Int) (b.toNat : Int) = ((r ^^^ bv8 b).toNat : Int) := by rw [← bv8_toNat, xor32]
  go_enter Try.func38, Try.ntmps38
  go_wp2
  go_loop [0, 9] (fun t i => ∃ k : Nat, k ≤ 8 ∧ i = .int .i64 k ∧ t = .int .u32 ((shN k (r ^^^ bv8 b)).toNat : Int)) (fun _ i => 8 - (intOf i).toNat)
  case atStart => exact ⟨0, by omega, rfl, rfl⟩
  case round =>
    obtain ⟨k, hk, rfl, rfl⟩ := hrel
    have y1 := (shN k (r ^^^ bv8 b)).isLt
    go_wp2
    · go_round
      case rel => exact ⟨k + 1, by omega, by go_num, by rw [sh1_odd ‹_›]; rfl⟩
      case measure => simp [intOf]; omega
    · go_round
      case rel => exact ⟨k + 1, by omega, by go_num, by rw [sh1_even ‹_›]; rfl⟩
      case measure => simp [intOf]; omega
    · go_ret
      obtain rfl : k = 8 := by omega
      exact ⟨rfl, rfl⟩
end Go.Proofs.Ytcfomkbmmpogdaa
