/- Texts of this proof, laid into one: Bits, Crc, FrA, Clo, Cps, Pure, Qt, Mix, Rnd. -/
import Derived.Test.YtcbepjepcabllaaGreatDoorMk01
import Derived.WalkKit
import Derived.Outline
import Derived.Test.YtcbepjepcabllaaGreatDoorShelf
import Derived.Lib.BufferWrite
import Derived.Laws.Rows
import Derived.OrdersHeld
import Derived.StillTail
import Derived.RangeFuncCalls
import Derived.OrdersIn
import Derived.TacticsIn
/- Numbers of 32 bits as rows of bits; joins of bytes. -/
namespace Go.Proofs.YtcbepjepcabllaaGreatDoor
open Go Go.RowKit

/-- A number of 32 bits as the walk holds it. -/
theorem ofInt32 (x : BitVec 32) : BitVec.ofInt 32 (x.toNat : Int) = x := by simp
theorem wrap32_lt (x : BitVec 32) : IntKind.u32.wrap (x.toNat : Int) = (x.toNat : Int) := by
  rw [IntKind.wrap_u32]; have := x.isLt; omega
theorem xor32 (x y : BitVec 32) : bits .xor .u32 (x.toNat : Int) (y.toNat : Int) = ((x ^^^ y).toNat : Int) := by
  show IntKind.u32.wrap ((BitVec.ofInt 32 _ ^^^ BitVec.ofInt 32 _).toNat : Int) = _
  rw [ofInt32, ofInt32, wrap32_lt]
theorem and32 (x y : BitVec 32) : bits .and .u32 (x.toNat : Int) (y.toNat : Int) = ((x &&& y).toNat : Int) := by
  show IntKind.u32.wrap ((BitVec.ofInt 32 _ &&& BitVec.ofInt 32 _).toNat : Int) = _
  rw [ofInt32, ofInt32, wrap32_lt]
theorem or32 (x y : BitVec 32) : bits .or .u32 (x.toNat : Int) (y.toNat : Int) = ((x ||| y).toNat : Int) := by
  show IntKind.u32.wrap ((BitVec.ofInt 32 _ ||| BitVec.ofInt 32 _).toNat : Int) = _
  rw [ofInt32, ofInt32, wrap32_lt]
theorem not32 (x : BitVec 32) : bits .xor .u32 4294967295 (x.toNat : Int) = ((~~~x).toNat : Int) := by
  have e : (4294967295 : Int) = ((BitVec.allOnes 32).toNat : Int) := by decide
  rw [e, xor32, BitVec.allOnes_xor]
theorem not32m (x : BitVec 32) : bits .xor .u32 IntKind.u32.max (x.toNat : Int) = ((~~~x).toNat : Int) := not32 x
theorem shr32 (x : BitVec 32) : (x.toNat : Int) / (2 : Int) = ((x >>> 1).toNat : Int) := by
  rw [BitVec.toNat_ushiftRight, Nat.shiftRight_eq_div_pow]; omega
theorem add32 (x y : BitVec 32) : ((x.toNat : Int) + (y.toNat : Int)) % 4294967296 = ((x + y).toNat : Int) := by
  rw [BitVec.toNat_add]; omega
theorem of32 (n : Int) (h0 : 0 ≤ n) (h1 : n < 4294967296) : ∃ x : BitVec 32, n = (x.toNat : Int) :=
  ⟨BitVec.ofNat 32 n.toNat, by rw [BitVec.toNat_ofNat]; omega⟩

theorem wraps_i64 (n : Int) (h₀ : 0 ≤ n) (h₁ : n < 2 ^ 63) : IntKind.i64.wrap n = n := by rw [IntKind.wrap_i64]; omega
theorem or_i64 (i : Nat) (x y : Int) (hx₀ : 0 ≤ x) (hx : x % 2 ^ i = 0) (hx₁ : x < 2 ^ 63) (hy₀ : 0 ≤ y) (hy : y < 2 ^ i) (hy₁ : y < 2 ^ 63) : bits .or .i64 x y = x + y :=
  bits_join .i64 63 (by decide) wraps_i64 i x y hx₀ hx hx₁ hy₀ hy hy₁
/-- Four bytes are one number. -/
theorem or_four (a b c d : Int) (a0 : 0 ≤ a) (a1 : a < 256) (b0 : 0 ≤ b) (b1 : b < 256) (c0 : 0 ≤ c) (c1 : c < 256) (d0 : 0 ≤ d) (d1 : d < 256) :
    bits .or .i64 (bits .or .i64 (bits .or .i64 (a * 16777216) (b * 65536)) (c * 256)) d = a * 16777216 + b * 65536 + c * 256 + d := by
  rw [or_i64 24 (a * 16777216) (b * 65536) (by omega) (by omega) (by omega) (by omega) (by omega) (by omega)]
  rw [or_i64 16 (a * 16777216 + b * 65536) (c * 256) (by omega) (by omega) (by omega) (by omega) (by omega) (by omega)]
  rw [or_i64 8 (a * 16777216 + b * 65536 + c * 256) d (by omega) (by omega) (by omega) (by omega) (by omega) (by omega)]
end Go.Proofs.YtcbepjepcabllaaGreatDoor
/- CRC-32C on rows of bits: one bit, one byte, a text. -/
set_option linter.unusedVariables false
namespace Go.Proofs.YtcbepjepcabllaaGreatDoor
def sh1 (r : BitVec 32) : BitVec 32 := if r &&& 1#32 = 1#32 then (r >>> 1) ^^^ 0x82F63B78#32 else r >>> 1
def shN : Nat → BitVec 32 → BitVec 32
  | 0, r => r
  | n + 1, r => sh1 (shN n r)
def bv8 (b : UInt8) : BitVec 32 := BitVec.ofNat 32 b.toNat
def shB (r : BitVec 32) (b : UInt8) : BitVec 32 := shN 8 (r ^^^ bv8 b)
def shL (r : BitVec 32) (l : List UInt8) : BitVec 32 := l.foldl shB r
def bnot (x : BitVec 32) : BitVec 32 := ~~~ x
theorem bnot_bnot (x : BitVec 32) : bnot (bnot x) = x := BitVec.not_not
def crcMore (s : BitVec 32) (l : List UInt8) : BitVec 32 := bnot (shL (bnot s) l)
def crcSum (l : List UInt8) : BitVec 32 := crcMore 0#32 l
theorem bv8_toNat (b : UInt8) : ((bv8 b).toNat : Int) = (b.toNat : Int) := by
  unfold bv8; rw [BitVec.toNat_ofNat]; have := b.toNat_lt; omega
theorem shL_snoc (r : BitVec 32) (l : List UInt8) (b : UInt8) : shL r (l ++ [b]) = shB (shL r l) b := by
  unfold shL; rw [List.foldl_append]; rfl
theorem shL_append (r : BitVec 32) (l m : List UInt8) : shL r (l ++ m) = shL (shL r l) m := by
  unfold shL; rw [List.foldl_append]
end Go.Proofs.YtcbepjepcabllaaGreatDoor
/- frame's small functions. -/
set_option linter.unusedVariables false
namespace Go.Proofs.YtcbepjepcabllaaGreatDoor
open Go Go.RowKit
def U32 (n : Int) : List UInt8 := [byteOf (n / 16777216 % 256), byteOf (n / 65536 % 256), byteOf (n / 256 % 256), byteOf (n % 256)]
def r32 (l : List UInt8) : Int := (gB l 0).toNat * 16777216 + (gB l 1).toNat * 65536 + (gB l 2).toNat * 256 + (gB l 3).toNat
theorem length_U32 (n : Int) : (U32 n).length = 4 := rfl

set_option maxHeartbeats 400000 in
theorem u32_any (n : Int) (w : World) (h0 : 0 ≤ n) (h1 : n ≤ 9223372036854775807) :
    Calls Tryz.prog 60 #[.int .i64 n] w fun e w' => e = .returned (.string ⟨(U32 n).toArray⟩) ∧ Q w w' := by
  have hc : ∀ (w : World) (cap : Nat), (convert 59 9 (.slice (some ⟨w.heap.size, 0, none⟩) 4 cap)).run Tryz.prog (w.alloc (.cells #[.int .u8 (n / 16777216 % 256), .int .u8 (n / 65536 % 256), .int .u8 (n / 256 % 256), .int .u8 (n % 256)] 5)) =
      .ok (.string ⟨(U32 n).toArray⟩) (w.alloc (.cells #[.int .u8 (n / 16777216 % 256), .int .u8 (n / 65536 % 256), .int .u8 (n / 256 % 256), .int .u8 (n % 256)] 5)) :=
    fun w cap => conv_bytes4 w _ _ _ cap _ _ _ _ Tryz.underlying59 Tryz.underlying5 Tryz.underlying9 (by omega) (by omega) (by omega) (by omega)
  go_enter Tryz.func60, Tryz.ntmps60
  go_wp2
  go_ret
  exact ⟨rfl, (Q.refl _).alloc _⟩
set_option maxHeartbeats 400000 in
theorem U32_any (n : Int) (w : World) (h0 : 0 ≤ n) (h1 : n ≤ 9223372036854775807) :
    Calls Tryz.prog 96 #[.int .i64 n] w fun e w' => e = .returned (.string ⟨(U32 n).toArray⟩) ∧ Q w w' := by
  have hc : ∀ (w : World) (cap : Nat), (convert 59 9 (.slice (some ⟨w.heap.size, 0, none⟩) 4 cap)).run Tryz.prog (w.alloc (.cells #[.int .u8 (n / 16777216 % 256), .int .u8 (n / 65536 % 256), .int .u8 (n / 256 % 256), .int .u8 (n % 256)] 5)) =
      .ok (.string ⟨(U32 n).toArray⟩) (w.alloc (.cells #[.int .u8 (n / 16777216 % 256), .int .u8 (n / 65536 % 256), .int .u8 (n / 256 % 256), .int .u8 (n % 256)] 5)) :=
    fun w cap => conv_bytes4 w _ _ _ cap _ _ _ _ Tryz.underlying59 Tryz.underlying5 Tryz.underlying9 (by omega) (by omega) (by omega) (by omega)
  go_enter Tryz.func96, Tryz.ntmps96
  go_wp2
  go_ret
  exact ⟨rfl, (Q.refl _).alloc _⟩

set_option maxHeartbeats 400000 in
theorem read32_any (l : List UInt8) (w : World) (h0 : 4 ≤ l.length) :
    Calls Tryz.prog 78 #[.string ⟨l.toArray⟩] w fun e w' => e = .returned (.int .i64 (r32 l)) ∧ Q w w' := by
  have b0 := gB_lt l 0
  have b1 := gB_lt l 1
  have b2 := gB_lt l 2
  have b3 := gB_lt l 3
  have hr : bits .or .i64 (bits .or .i64 (bits .or .i64 (((gB l 0).toNat : Int) * 16777216) (((gB l 1).toNat : Int) * 65536)) (((gB l 2).toNat : Int) * 256)) ((gB l 3).toNat : Int) = r32 l :=
    or_four _ _ _ _ (by omega) (by omega) (by omega) (by omega) (by omega) (by omega) (by omega) (by omega)
  go_enter Tryz.func78, Tryz.ntmps78
  go_wp2
  refine wp_region_q (by kernel_rfl) (by kernel_rfl) ?_
  repeat (go_big_quiet_step (fail))
  refine wpQuiet_nil ?_
  rintro _ ⟨⟨w1, hq1⟩, rfl⟩
  go_wp2
  go_ret
  exact ⟨rfl, hq1⟩

def endsN (n : Int) : Int := (n + 87) / 64 * 64
set_option maxHeartbeats 400000 in
theorem ends_any (n : Int) (w : World) (h0 : 0 ≤ n) (h1 : n ≤ 4294967296) :
    Calls Tryz.prog 64 #[.int .i64 n] w fun e w' => e = .returned (.int .i64 (endsN n)) ∧ w = w' := by
  go_enter Tryz.func64, Tryz.ntmps64
  go_wp2
  go_ret
  exact ⟨ret_int (by unfold endsN; omega), rfl⟩
set_option maxHeartbeats 400000 in
theorem Sectors_any (n : Int) (w : World) (h0 : 0 ≤ n) (h1 : n ≤ 4294967296) :
    Calls Tryz.prog 70 #[.int .i64 n] w fun e w' => e = .returned (.int .i64 ((n + 63) / 64)) ∧ w = w' := by
  go_enter Tryz.func70, Tryz.ntmps70
  go_wp2
  go_ret
  exact ⟨ret_int (by omega), rfl⟩

def rightB (e n : Int) : Bool := decide (0 ≤ e ∧ e ≤ 4611686018427387904 ∧ 0 ≤ n ∧ n ≤ 4294967295)
set_option maxHeartbeats 400000 in
theorem right_any (e n : Int) (w : World) :
    Calls Tryz.prog 58 #[.int .i64 e, .int .i64 n] w fun x w' => x = .returned (.bool (rightB e n)) ∧ w = w' := by
  go_enter Tryz.func58, Tryz.ntmps58
  go_wp2
  all_goals (go_ret; exact ⟨ret_eq (congrArg Value.bool (by unfold rightB; rw [Bool.eq_iff_iff]; simp; omega)), rfl⟩)

theorem and1_32 (y : BitVec 32) : (bits .and .u32 (y.toNat : Int) 1 == 1) = decide (y &&& 1#32 = 1#32) := by
  have e : (1 : Int) = ((1#32).toNat : Int) := by decide
  rw [e, and32, Bool.eq_iff_iff]
  simp only [beq_iff_eq, decide_eq_true_eq]
  rw [← BitVec.toNat_inj]; omega
theorem poly32 (y : BitVec 32) : bits .xor .u32 ((y.toNat : Int) / 2) 2197175160 = (((y >>> 1) ^^^ 0x82F63B78#32).toNat : Int) := by
  have e : (2197175160 : Int) = ((0x82F63B78#32).toNat : Int) := by decide
  rw [e, shr32, xor32]
theorem sh1_odd {y : BitVec 32} (h : (bits .and .u32 (y.toNat : Int) 1 == 1) = true) : bits .xor .u32 ((y.toNat : Int) / 2) 2197175160 = ((sh1 y).toNat : Int) := by
  rw [and1_32] at h
  rw [poly32, sh1, if_pos (of_decide_eq_true h)]
theorem sh1_even {y : BitVec 32} (h : (bits .and .u32 (y.toNat : Int) 1 == 1) = false) : (y.toNat : Int) / 2 = ((sh1 y).toNat : Int) := by
  rw [and1_32] at h
  rw [shr32, sh1, if_neg (of_decide_eq_false h)]

set_option maxHeartbeats 400000 in
theorem shift_any (r : BitVec 32) (b : UInt8) (w : World) :
    Calls Tryz.prog 79 #[.int .u32 (r.toNat : Int), .int .u8 (b.toNat : Int)] w fun e w' => e = .returned (.int .u32 ((shB r b).toNat : Int)) ∧ w = w' := by
  have r1 := r.isLt
  have b1 := b.toNat_lt
  have hx : bits .xor .u32 (r.toNat : Int) (b.toNat : Int) = ((r ^^^ bv8 b).toNat : Int) := by rw [← bv8_toNat, xor32]
  go_enter Tryz.func79, Tryz.ntmps79
  go_wp2
  go_loop [0, 9] (fun t i => ∃ k : Nat, k ≤ 8 ∧ i = .int .i64 k ∧ t = .int .u32 ((shN k (r ^^^ bv8 b)).toNat : Int)) (fun _ i => 8 - (intOf i).toNat)
  case atStart => exact ⟨0, by omega, rfl, rfl⟩
  case round =>
    obtain ⟨k, hk, rfl, rfl⟩ := hrel
    have y1 := (shN k (r ^^^ bv8 b)).isLt
    go_wp2
    · go_round
      case rel => exact ⟨k + 1, by omega, by go_num, by rw [sh1_odd ‹_›]; rfl⟩
      case measure => simp [intOf]; omega
    · go_round
      case rel => exact ⟨k + 1, by omega, by go_num, by rw [sh1_even ‹_›]; rfl⟩
      case measure => simp [intOf]; omega
    · go_ret
      obtain rfl : k = 8 := by omega
      exact ⟨rfl, rfl⟩
end Go.Proofs.YtcbepjepcabllaaGreatDoor
/- strings.Clone; the number that stands at a place. -/
set_option linter.unusedVariables false
namespace Go.Proofs.YtcbepjepcabllaaGreatDoor
open Go Go.RowKit
/-- The number that stands at a place. -/
def nAt (l : List UInt8) (at_ : Nat) : Nat := (r32 (sub l at_ l.length)).toNat
theorem r32_bd (l : List UInt8) : 0 ≤ r32 l ∧ r32 l < 4294967296 := by
  unfold r32; have := gB_lt l 0; have := gB_lt l 1; have := gB_lt l 2; have := gB_lt l 3; omega
theorem nAt_r32 (l : List UInt8) (k : Nat) : r32 (sub l k l.length) = (nAt l k : Int) := by
  unfold nAt; have := r32_bd (sub l k l.length); omega
theorem nAt_zero (l : List UInt8) : r32 l = (nAt l 0 : Int) := by
  rw [← nAt_r32]; simp [sub]
set_option maxHeartbeats 400000 in
theorem Clone_any (l : List UInt8) (w : World) (hl : l.length ≤ 140737488355328) :
    Calls Tryz.prog 28 #[.string ⟨l.toArray⟩] w fun e w' => e = .returned (.string ⟨l.toArray⟩) ∧ Q w w' := by
  go_enter Tryz.func28, Tryz.ntmps28
  go_wp2_with (go_at_call 55; refine (Tryz.stringslite_Clone _ _ (by simp [ByteArray.size]; omega)).mono ?_; rintro e w1 ⟨rfl, hq1⟩)
  go_ret
  exact ⟨rfl, ‹_›⟩
end Go.Proofs.YtcbepjepcabllaaGreatDoor
/- copy onto part of a block, out of a text. -/
set_option linter.unusedVariables false
namespace Go.Proofs.YtcbepjepcabllaaGreatDoor
open Go Go.RowKit
/-- copy onto part of a block, out of a text. -/
theorem wpList_copy_str {P : Program} {ops : Array Oper} {rest : List Oper} {o : Oper} {a : Act} {w : World} {R : Exit → Act → World → Prop} (hgd : o.guard = none) (d x : Operand) (dT sT elem : TypeId)
    (hop : o.op = .call { callee := .builtin .copy, args := #[d, x], argTypes := #[dT, sT] }) (hu : P.underlying dT = some (.slice elem)) (hs : (P.info? elem).map (·.size) = some 1)
    (g off dLen dCap : Nat) (hd : a.eval d = .slice (some ⟨g, off, none⟩) dLen dCap) (s : List UInt8) (hx : a.eval x = .string ⟨s.toArray⟩) (cur : Array Value) (t : TypeId) (hg : w.heap[g]? = some (.cells cur t (0, 0)))
    (p : List UInt8) (hp : s.take dLen = p) (hfit : off + p.length ≤ cur.size)
    (h : wpList P ops R rest (a.put o.dst (goInt p.length)) (w.setRow g (cur.toList.take off ++ Lib.byteCells p ++ cur.toList.drop (off + p.length)).toArray)) : wpList P ops R (o :: rest) a w := by
  have hrun : (Builtin.copy_ #[dT, sT] o.type #[.slice (some ⟨g, off, none⟩) dLen dCap, .string ⟨s.toArray⟩]).run P w = .ok (goInt p.length) (w.setRow g (cur.toList.take off ++ Lib.byteCells p ++ cur.toList.drop (off + p.length)).toArray) := by
    have hst := run_storeCells_at P g off t (Lib.byteCells p) 0 cur w hg (by rw [Lib.byteCells_length]; simpa using hfit) (Lib.byteCells_one _)
    rw [Lib.byteCells_length] at hst
    simp only [Nat.add_zero] at hst
    have hsz : (ByteArray.mk s.toArray).size = s.length := rfl
    have hmin : Nat.min s.length dLen = p.length := by rw [← hp, List.length_take]; exact Nat.min_comm _ _
    have htk : List.take p.length (List.map (fun b : UInt8 => Value.int IntKind.u8 (b.toNat : Int)) s) = Lib.byteCells p := by
      rw [← hp, List.length_take, ← List.map_take]
      unfold Lib.byteCells
      congr 1
      rcases Nat.le_total dLen s.length with h | h
      · rw [Nat.min_eq_left h]
      · rw [Nat.min_eq_right h, List.take_length, List.take_of_length_le h]
    cases hq : P.info? elem with
    | none => simp [hq] at hs
    | some i =>
      simp [Builtin.copy_, run_underlying hu, Builtin.lenOf, Builtin.firstCells, sizeOf, typeInfo, hq, hsz, hmin]
      rw [htk, hst]
      simp [Result.andThen]
  refine wpList_plain hgd fun K hK => ?_
  have hfin := hK _ _ h
  generalize w.setRow g (cur.toList.take off ++ Lib.byteCells p ++ cur.toList.drop (off + p.length)).toArray = W at *
  unfold Oper.wp
  simp [execOp, hop, resolve, invoke, builtin, hd, hx, hrun, Result.andThen]
  exact hfin
end Go.Proofs.YtcbepjepcabllaaGreatDoor
/- A region that draws its order: operations that read no memory may be taken first; what is left has a forced order. -/
set_option linter.unusedVariables false
namespace Go.Proofs.YtcbepjepcabllaaGreatDoor
open Go Go.RowKit
def pureOp : Op → Bool
  | .move _ | .assign _ | .nilCheck _ | .pick .. | .build .. | .load .. | .binOp .. | .unOp .. | .convert .. | .slice .. | .fieldAddr .. | .field .. | .indexAddr .. | .index .. | .extract .. => true
  | .call c => (match c.callee with | .builtin .len => true | _ => false)
  | _ => false
theorem pure_run {P : Program} {ρ : Operand → Value} {o : Oper} {w w' : World} {n : Next} (hp : pureOp o.op = true) (h : (execOp ρ o).run P w = .ok n w') : ∃ v, n = .value v := by
  have key : ∀ s : Sem Value, (do pure (Next.value (← s)) : Sem Next).run P w = .ok n w' → ∃ v, n = .value v := by
    intro s hs
    simp only [Sem.run_bind, Sem.run_pure] at hs
    cases hq : s.run P w with
    | ok x u => rw [hq] at hs; simp [Result.andThen] at hs; exact ⟨x, hs.1.symm⟩
    | halt x u => rw [hq] at hs; simp [Result.andThen] at hs
  obtain ⟨dst, op, type, pos, after, guard⟩ := o
  cases op <;> simp only [pureOp, Bool.false_eq_true] at hp <;> unfold execOp at h <;> simp only at h
  case move x => simp only [Sem.run_pure] at h; cases h; exact ⟨_, rfl⟩
  case assign x => simp only [Sem.run_pure] at h; cases h; exact ⟨_, rfl⟩
  case pick c a b =>
    simp only [Sem.run_bind, Sem.run_pure] at h
    cases hq : (asBool (ρ c)).run P w with
    | ok x u => rw [hq] at h; simp [Result.andThen] at h; exact ⟨_, h.1.symm⟩
    | halt x u => rw [hq] at h; simp [Result.andThen] at h
  case call c =>
    obtain ⟨ce, ar, ts⟩ := c
    cases ce with
    | builtin b =>
      cases b <;> simp only [Bool.false_eq_true] at hp
      simp only [resolve, invoke, Sem.run_bind, Sem.run_pure, Result.andThen, builtin] at h
      cases hq : (Builtin.len_ ts type (Array.map ρ ar)).run P w with
      | ok x u => rw [hq] at h; simp at h; exact ⟨_, h.1.symm⟩
      | halt x u => rw [hq] at h; simp at h
    | invoke x y => simp only [Bool.false_eq_true] at hp
    | value x => simp only [Bool.false_eq_true] at hp
  case nilCheck x =>
    have kb : ∀ {α : Type} (s : Sem α) (f : α → Sem Next) (w : World), (∀ a w1, (f a).run P w1 = .ok n w' → ∃ v, n = .value v) → (s >>= f).run P w = .ok n w' → ∃ v, n = .value v := fun s f w hf h => by
      rw [Sem.run_bind] at h
      cases hq : s.run P w with
      | ok a w1 => rw [hq] at h; exact hf a w1 h
      | halt y w1 => rw [hq] at h; cases h
    have kp : ∀ (v : Value) (w : World), (pure (Next.value v) : Sem Next).run P w = .ok n w' → ∃ v, n = .value v := fun v w h => by
      simp only [Sem.run_pure] at h; cases h; exact ⟨_, rfl⟩
    have kn : (runtimePanic .nilDeref : Sem Next).run P w = .ok n w' → ∃ v, n = .value v := fun h => by
      unfold runtimePanic at h
      refine kb _ _ _ (fun a w1 h => ?_) h
      simp [goPanic] at h
    split at h
    · exact kn h
    · exact kn h
    · exact kn h
    · split at h
      · exact kn h
      · refine kb _ _ _ (fun a w1 h => kb _ _ _ (fun b w2 h => ?_) h) h
        split at h
        · exact kb _ _ _ (fun _ w3 h => kp _ _ h) h
        · exact kp _ _ h
      · exact kp _ _ h
    · exact kp _ _ h
  all_goals exact key _ h
def pureB (md : Region.Mode) (ops : Array Oper) : List Nat → Array Bool → Bool
  | [], _ => true
  | k :: r, ls => (match ops[k]? with | some o => pureOp o.op | none => false) && Region.free md ops ls k && (Region.ready md ops ls).contains k && pureB md ops r (ls.setIfInBounds k true)
def markB : List Nat → Array Bool → Array Bool
  | [], ls => ls
  | k :: r, ls => markB r (ls.setIfInBounds k true)
def tailB (md : Region.Mode) (ops : Array Oper) : List Nat → Array Bool → Bool
  | [], ls => (Region.ready md ops ls).isEmpty
  | k :: r, ls => decide (Region.ready md ops ls = [k]) && (ops[k]?).isSome && tailB md ops r (ls.setIfInBounds k true)
section
variable {P : Program} {ops : Array Oper} {R : Exit → Act → World → Prop}
theorem wpQuiet_mono {C : World → Prop} {K K' : Act → Prop} (hk : ∀ a, K a → K' a) (l : List Oper) : ∀ a, wpQuiet P ops C K l a → wpQuiet P ops C K' l a := by
  induction l with
  | nil => intro a h; exact hk a h
  | cons o r ih =>
    intro a h
    unfold wpQuiet at h ⊢
    split
    · next hw => rw [if_pos hw] at h; exact Oper.quiet_mono ih h
    · next hw => rw [if_neg hw] at h; exact ih _ h
theorem any_tail (tl : List Nat) : ∀ (ls : Array Bool) (a : Act) (w : World), tailB .any ops tl ls = true → wpList P ops R (tl.map (ops.getD · default)) a w → wpAnyH P .any ops R (fun _ => True) tl.length ls a w := by
  induction tl with
  | nil => intro ls a w hB h; exact ⟨by simpa [tailB] using hB, h⟩
  | cons k r ih =>
    intro ls a w hB h
    simp only [tailB, Bool.and_eq_true, decide_eq_true_eq] at hB
    refine wpAnyH_all hB.1.1 (by simp) fun i hi => ?_
    have e : i = k := by simpa using hi
    subst e
    obtain ⟨o, ho⟩ := Option.isSome_iff_exists.1 hB.1.2
    have hk : ops.getD i default = o := by simp [Array.getD_eq_getD_getElem?, ho]
    rw [List.map_cons, hk] at h
    have hw : wpOp P ops R i (wpList P ops R (r.map (ops.getD · default))) a w := by unfold wpOp; simp only [ho]; exact h
    exact wpOp_mono (fun a' w' h' => ⟨trivial, ih _ a' w' hB.2 h'⟩) hw
theorem any_head (hsel : Region.noSelect ops = true) (hQ : ∀ c a d v w, R (.panic c) (Act.put a d v) w → R (.panic c) a w) (f : Nat) (w : World) (hd : List Nat) : ∀ (ls : Array Bool) (a : Act), pureB .any ops hd ls = true →
    wpQuiet P ops (fun _ => True) (fun a' => wpAnyH P .any ops R (fun _ => True) f (markB hd ls) a' w) (hd.map (ops.getD · default)) a → wpAnyH P .any ops R (fun _ => True) (hd.length + f) ls a w := by
  induction hd with
  | nil => intro ls a hB h; rw [List.length_nil, Nat.zero_add]; exact h
  | cons k r ih =>
    intro ls a hB h
    simp only [pureB, Bool.and_eq_true] at hB
    cases ho : ops[k]? with
    | none => rw [ho] at hB; simp at hB
    | some o =>
      rw [ho] at hB
      have hk : ops.getD k default = o := by simp [Array.getD_eq_getD_getElem?, ho]
      rw [List.map_cons, hk] at h
      have h2 : if Region.wanted o (yielded ops a.tmps) then o.quiet P a (fun _ => True) (wpQuiet P ops (fun _ => True) (fun a' => wpAnyH P .any ops R (fun _ => True) f (markB (k :: r) ls) a' w) (r.map (ops.getD · default)))
        else wpQuiet P ops (fun _ => True) (fun a' => wpAnyH P .any ops R (fun _ => True) f (markB (k :: r) ls) a' w) (r.map (ops.getD · default)) (a.put o.dst undef) := h
      rw [List.length_cons, Nat.add_right_comm]
      split at h2
      · next hw =>
        obtain ⟨v, hv, hn⟩ := h2
        refine wpAnyH_take ho hsel hB.1.1.2 hB.1.2 (fun c a w => hQ c a _ _ w) (.inl ⟨hw, fun w' _ => ?_⟩) trivial (ih _ _ hB.2 hn)
        have h3 := hv w' trivial
        unfold Oper.quietAt at h3
        cases hr : (execOp a.eval o).run P w' with
        | halt x u => rw [hr] at h3; simp only [Oper.quietUpon] at h3
        | ok n u =>
          obtain ⟨x, rfl⟩ := pure_run hB.1.1.1 hr
          rw [hr] at h3
          simp only [Oper.quietUpon] at h3
          rw [h3.1, h3.2]
      · next hw =>
        exact wpAnyH_take ho hsel hB.1.1.2 hB.1.2 (fun c a w => hQ c a _ _ w) (.inr ⟨by simpa using hw, rfl⟩) trivial (ih _ _ hB.2 h2)
end
/-- Those of 'hd' are taken first, in that order; those of 'tl' come behind them, in that order. -/
theorem wp_region_pure {P : Program} {id : Nat} {R : Exit → Act → World → Prop} {a : Act} {w : World} {l : List Oper} (hd tl : List Nat) (hm : P.follows .mixedOrders = true)
    (hB : (Region.noSelect l.toArray && pureB .any l.toArray hd (Array.replicate l.length false) && tailB .any l.toArray tl (markB hd (Array.replicate l.length false)) && decide (hd.length + tl.length = l.length)) = true)
    (hQ : ∀ c a d v w, R (.panic c) (Act.put a d v) w → R (.panic c) a w)
    (h : wpQuiet P l.toArray (fun _ => True) (fun a' => wpList P l.toArray R (tl.map (l.toArray.getD · default)) a' w.drew) (hd.map (l.toArray.getD · default)) a) : (Code.region id l.toArray true).wp P R a w := by
  simp only [Bool.and_eq_true, decide_eq_true_eq] at hB
  obtain ⟨⟨⟨h1, h2⟩, h3⟩, h4⟩ := hB
  refine wp_region_held (S := fun _ => True) hm ?_
  have e : l.toArray.size = hd.length + tl.length := by simp [h4]
  rw [e]
  have e2 : Array.replicate (hd.length + tl.length) false = Array.replicate l.length false := by rw [h4]
  rw [e2]
  refine any_head h1 hQ tl.length _ hd _ a h2 ?_
  exact wpQuiet_mono (fun a' h' => any_tail tl _ a' _ h3 h') _ _ h
end Go.Proofs.YtcbepjepcabllaaGreatDoor
/- A region that draws its order: reads and calls that may lay new memory ahead, then a tail in a forced order that writes. -/
set_option linter.unusedVariables false
namespace Go.Proofs.YtcbepjepcabllaaGreatDoor
open Go Go.RowKit

section
variable {P : Program} {ops : Array Oper} {md : Region.Mode} {C : World → Prop}
/-- Whatever order is picked among the first n operations. -/
def headQ (P : Program) (md : Region.Mode) (ops : Array Oper) (C : World → Prop) (n : Nat) (L : Array Bool → Act → Prop) : Nat → Array Bool → Act → Prop
  | 0, ls, a => L ls a
  | f + 1, ls, a => Region.ready md ops ls ≠ [] ∧ ∀ i ∈ Region.ready md ops ls, i < n ∧ qOp P ops C i (headQ P md ops C n L f (ls.setIfInBounds i true)) a
theorem any_of_headQ {n g : Nat} {L : Array Bool → Act → Prop} {R : Exit → Act → World → Prop} (hL : ∀ ls a w, C w → L ls a → wpAny P md ops R g ls a w) (f : Nat) :
    ∀ (ls : Array Bool) (a : Act) (w : World), C w → headQ P md ops C n L f ls a → wpAny P md ops R (f + g) ls a w := by
  induction f with
  | zero => intro ls a w hw h; rw [Nat.zero_add]; exact hL _ _ _ hw h
  | succ f ih =>
    intro ls a w hw h
    rw [Nat.add_right_comm]
    exact ⟨fun h0 => (h.1 h0).elim, fun i hi => wpOp_of_qOp hw (fun a' w' hw' hk => ih _ a' w' hw' hk) (h.2 i hi).2⟩
/-- One that may come up now may be taken first. -/
theorem headQ_first {n i : Nat} {oi : Oper} {v : Value} {L : Array Bool → Act → Prop} (hi : ops[i]? = some oi) (hsel : ∀ (j : Nat) (o : Oper) cs b, ops[j]? = some o → o.op ≠ .select cs b)
    (hs : Region.sinkB md ops n = true) (hc : Region.chainB md ops n = true) (hn : n < ops.size) (hin : i < n) (hdone : ∀ ls a, L ls a → ∀ j ∈ Region.ready md ops ls, n ≤ j) (f : Nat) :
    ∀ (ls : Array Bool) (a : Act), HeadInv md ops n ls →
      (∀ j oj, ops[j]? = some oj → j ≠ i → ls.getD j true = false → (∀ e ∈ oj.after, Region.binds md e = true → e.on ≠ i) → oi.apart ops oj = true) →
      i ∈ Region.ready md ops ls → YieldsIn P ops C oi v a → headQ P md ops C n L f (ls.setIfInBounds i true) (a.put oi.dst v) → headQ P md ops C n L (f + 1) ls a := by
  induction f with
  | zero =>
    intro ls a inv _ hr hy H
    have hun := (mem_ready.1 hr).1
    refine ⟨List.ne_nil_of_mem hr, fun j hj => ?_⟩
    have hjn : j < n := Nat.lt_of_not_le fun h => tail_waits hs hc hn inv _ i rfl hin hun j h hj
    by_cases e : j = i
    · rw [e] at hjn ⊢; exact ⟨hjn, hy.qOp hi H⟩
    · exact absurd (hdone _ _ H j (ready_mono hj e)) (Nat.not_le.2 hjn)
  | succ f ih =>
    intro ls a inv hfree hr hy H
    have hun := (mem_ready.1 hr).1
    refine ⟨List.ne_nil_of_mem hr, fun j hj => ?_⟩
    have hjn : j < n := Nat.lt_of_not_le fun h => tail_waits hs hc hn inv _ i rfl hin hun j h hj
    by_cases e : j = i
    · rw [e] at hjn ⊢; exact ⟨hjn, hy.qOp hi H⟩
    · refine ⟨hjn, ?_⟩
      obtain ⟨hjun, oj, hoj, hall⟩ := mem_ready.1 hj
      have hno : ∀ x ∈ oj.after, Region.binds md x = true → x.on ≠ i := by
        intro x hx hb he
        have := hall x hx hb
        rw [he, getD_both hun] at this
        cases this
      have h2 := qOp_put hoj (hfree j oj hoj e hjun hno) (fun cs b => hsel i oi cs b hi) (fun cs b => hsel j oj cs b hoj) hy (H.2 j (ready_mono hj e)).2
      refine qOp_mono (fun a' h3 => ih _ a' (inv.set hj hjn) (fun k ok hk hki hku hkn => hfree k ok hk hki ?_ hkn) (ready_mono hr (Ne.symm e)) h3.1 (by rw [Array.setIfInBounds_comm _ _ e]; exact h3.2)) h2
      by_cases hjk : j = k
      · rw [← hjk]; exact hjun
      · rwa [getD_set_ne true hjk] at hku
theorem headQ_lex {n g : Nat} {K : Act → Prop} (hsel : Region.noSelect ops = true) (hs : Region.sinkB md ops n = true) (hc : Region.chainB md ops n = true) (hn : n < ops.size) (l : List Oper) :
    ∀ (k : Nat) (ls : Array Bool) (a : Act), (∀ j, j < l.length → l[j]? = ops[k + j]?) → k + l.length = n → HeadInv md ops n ls →
    Region.lexHead md ops g l.length k ls = true → wpQuiet P ops C K l a → headQ P md ops C n (fun ls' a' => Region.seqB md ops g n ls' = true ∧ K a') l.length ls a := by
  induction l with
  | nil =>
    intro k ls a _ hk _ hB h
    have e : k = n := by simpa using hk
    exact ⟨by rw [← e]; simpa [Region.lexHead] using hB, h⟩
  | cons o l ih =>
    intro k ls a hl hk inv hB h
    have h0 : ops[k]? = some o := by simpa using (hl 0 (by simp)).symm
    simp only [List.length_cons, Region.lexHead, Bool.and_eq_true] at hB hk
    have hkn : k < n := by omega
    have hr : k ∈ Region.ready md ops ls := by simpa using hB.1.1
    have hq : qOp P ops C k (wpQuiet P ops C K l) a := by unfold qOp; simp only [h0]; exact h
    obtain ⟨v, hy, hK⟩ := yieldsIn_of_qOp h0 hq
    refine headQ_first h0 (Region.noSelect_spec hsel) hs hc hn hkn (fun ls' a' hL => seqB_ready hL.1) l.length ls a inv (Region.free_spec h0 hB.1.2) hr hy ?_
    refine ih (k + 1) _ _ (fun j hj => ?_) (by omega) (inv.set hr hkn) hB.2 hK
    have := hl (j + 1) (by simp; omega)
    simpa [Nat.add_assoc, Nat.add_comm 1 j] using this
theorem wp_region_quiet_tail {id : Nat} {R : Exit → Act → World → Prop} {a : Act} {w : World} {l : List Oper} (n : Nat) (hm : P.follows .mixedOrders = true) (hB : Region.lexTailB .any l.toArray n = true)
    (hC : C { w with drawn := w.drawn + 1 }) (h : wpQuiet P l.toArray C (fun a' => ∀ w', C w' → wpList P l.toArray R (l.drop n) a' w') (l.take n) a) : (Code.region id l.toArray true).wp P R a w := by
  simp only [Region.lexTailB, Bool.and_eq_true, decide_eq_true_eq] at hB
  have hn : n < l.length := by simpa using hB.1.1.1.2
  have htl : (l.take n).length = n := by simp; omega
  have hdl : (l.drop n).length = l.toArray.size - n := by simp
  have inv0 : HeadInv .any l.toArray n (Array.replicate l.toArray.size false) :=
    ⟨by simp, fun j oj _ hl => (by rw [getD_replicate_false] at hl; cases hl), fun t _ ht => getD_in (by simpa using ht) (getD_replicate_false _ _)⟩
  have H := headQ_lex (md := .any) (C := C) (g := l.toArray.size - n) hB.1.1.1.1 hB.1.1.2 hB.1.2 hB.1.1.1.2 (l.take n) 0 _ a (fun j hj => by rw [htl] at hj; simp [hj]) (by simpa using htl) inv0 (by rw [htl]; exact hB.2) h
  refine wp_region_any hm ?_
  have := any_of_headQ (C := C) (R := R) (g := l.toArray.size - n) (fun ls a' w' hw' hL => by
    have h1 := wpAny_of_seq (md := .any) (Q' := R) (l.drop n) n ls a' w' (fun j => by simp [List.getElem?_drop]) (by rw [hdl]; exact hL.1) (hL.2 w' hw')
    rwa [hdl] at h1) _ _ _ _ hC H
  have hsz : n + (l.toArray.size - n) = l.toArray.size := by
    have : l.toArray.size = l.length := by simp
    omega
  rwa [htl, hsz] at this
end
/-- The head may lay new memory; behind it the world is one that w grew to. -/
theorem wp_region_q_tail {P : Program} {id : Nat} {R : Exit → Act → World → Prop} {a : Act} {w : World} {l : List Oper} (n : Nat) (hm : P.follows .mixedOrders = true) (hB : Region.lexTailB .any l.toArray n = true)
    (h : wpQuiet P l.toArray (fun w' => ∃ m : QW w, w' = m.val) (fun a' => ∀ w', (∃ m : QW w, w' = m.val) → wpList P l.toArray R (l.drop n) a' w') (l.take n) a) : (Code.region id l.toArray true).wp P R a w :=
  wp_region_quiet_tail (C := fun w' => ∃ m : QW w, w' = m.val) n hm hB ⟨⟨w.drew, (Q.refl w).drew⟩, rfl⟩ h
end Go.Proofs.YtcbepjepcabllaaGreatDoor
/- A region that draws its order: operations that read no memory first, then calls that may lay new memory, then a rest in a forced order. -/
set_option linter.unusedVariables false
namespace Go.Proofs.YtcbepjepcabllaaGreatDoor
open Go Go.RowKit
section
variable {P : Program} {ops : Array Oper} {R : Exit → Act → World → Prop} {C : World → Prop}
theorem held_of_any {md : Region.Mode} (f : Nat) : ∀ (ls : Array Bool) (a : Act) (w : World), wpAny P md ops R f ls a w → wpAnyH P md ops R (fun _ => True) f ls a w := by
  induction f with
  | zero => intro ls a w h; exact h
  | succ f ih => intro ls a w h; exact ⟨h.1, fun i hi => wpOp_mono (fun a' w' h' => ⟨trivial, ih _ a' w' h'⟩) (h.2 i hi)⟩
/-- Whatever order is picked among those of H. -/
def mixQ (P : Program) (ops : Array Oper) (C : World → Prop) (H : Nat → Prop) (L : Array Bool → Act → Prop) : Nat → Array Bool → Act → Prop
  | 0, ls, a => L ls a
  | f + 1, ls, a => Region.ready .any ops ls ≠ [] ∧ ∀ i ∈ Region.ready .any ops ls, H i ∧ qOp P ops C i (mixQ P ops C H L f (ls.setIfInBounds i true)) a
theorem any_of_mixQ {H : Nat → Prop} {g : Nat} {L : Array Bool → Act → Prop} (hL : ∀ ls a w, C w → L ls a → wpAny P .any ops R g ls a w) (f : Nat) :
    ∀ (ls : Array Bool) (a : Act) (w : World), C w → mixQ P ops C H L f ls a → wpAny P .any ops R (f + g) ls a w := by
  induction f with
  | zero => intro ls a w hw h; rw [Nat.zero_add]; exact hL _ _ _ hw h
  | succ f ih =>
    intro ls a w hw h
    rw [Nat.add_right_comm]
    exact ⟨fun h0 => (h.1 h0).elim, fun i hi => wpOp_of_qOp hw (fun a' w' hw' hk => ih _ a' w' hw' hk) (h.2 i hi).2⟩
/-- What has come up so far: those of ls1, and some of H, each behind those that it waits for. -/
structure MixInv (ops : Array Oper) (ls1 : Array Bool) (H : Nat → Prop) (ls : Array Bool) : Prop where
  size : ls.size = ops.size
  closed : ∀ j oj, ops[j]? = some oj → ls.getD j false = true → ∀ e ∈ oj.after, Region.binds .any e = true → ls.getD e.on false = true
  rest : ∀ t, ¬ H t → ls1.getD t true = false → ls.getD t true = false
  more : ∀ t, ls1.getD t true = true → ls.getD t true = true
theorem MixInv.set {ls1 : Array Bool} {H : Nat → Prop} {i : Nat} {ls : Array Bool} (inv : MixInv ops ls1 H ls) (hi : i ∈ Region.ready .any ops ls) (hin : H i) : MixInv ops ls1 H (ls.setIfInBounds i true) := by
  obtain ⟨_, oi, hoi, hall⟩ := mem_ready.1 hi
  refine ⟨by simp [inv.size], fun j oj hj hl e he hb => ?_, fun t ht ht' => ?_, fun t ht => ?_⟩
  · by_cases hij : i = j
    · subst hij
      have : oj = oi := Option.some.inj (hj.symm.trans hoi)
      subst this
      exact getD_set_true (hall e he hb)
    · rw [getD_set_ne false hij] at hl
      exact getD_set_true (inv.closed j oj hj hl e he hb)
  · have : i ≠ t := fun h => ht (h ▸ hin)
    rw [getD_set_ne true this]; exact inv.rest t ht ht'
  · by_cases hij : i = t
    · subst hij
      by_cases hs : i < ls.size
      · simp [hs]
      · simp [hs]
    · rw [getD_set_ne true hij]; exact inv.more t ht
/-- Each of qs is waited for by a later one of qs, or by the first of tl; each of tl by the next. -/
def sinkL (ops : Array Oper) (qs : List Nat) (t0 : Nat) : Bool := qs.all fun i => (t0 :: qs).any fun j => decide (i < j) && Region.waitsFor .any ops j i
def chainL (ops : Array Oper) : List Nat → Bool
  | a :: b :: r => Region.waitsFor .any ops b a && chainL ops (b :: r)
  | _ => true
theorem chainL_prev {tl : List Nat} (h : chainL ops tl = true) : ∀ t ∈ tl.tail, ∃ s ∈ tl, Region.waitsFor .any ops t s = true := by
  induction tl with
  | nil => intro t ht; cases ht
  | cons a r ih =>
    cases r with
    | nil => intro t ht; cases ht
    | cons b r =>
      simp only [chainL, Bool.and_eq_true] at h
      intro t ht
      rcases List.mem_cons.1 ht with e | e
      · subst e; exact ⟨a, by simp, h.1⟩
      · obtain ⟨s, hs, hs2⟩ := ih h.2 t e
        exact ⟨s, List.mem_cons_of_mem _ hs, hs2⟩
theorem mix_waits {ls1 ls : Array Bool} {qs : List Nat} {t0 : Nat} {tr : List Nat} {N : Nat} (hN : ∀ i ∈ t0 :: qs, i < N) (hs : sinkL ops qs t0 = true) (hc : chainL ops (t0 :: tr) = true) (hT : ∀ t ∈ t0 :: tr, t ∉ qs ∧ ls1.getD t true = false) (hsz : ∀ i ∈ t0 :: qs, i < ops.size)
    (inv : MixInv ops ls1 (· ∈ qs) ls) : ∀ (d i : Nat), N - i = d → i ∈ qs → ls.getD i true = false → ∀ t ∈ t0 :: tr, t ∉ Region.ready .any ops ls := by
  intro d
  induction d using Nat.strongRecOn with
  | _ d ih =>
    intro i hd hi hun t ht hr
    obtain ⟨_, ot, hot, hall⟩ := mem_ready.1 hr
    rcases List.mem_cons.1 ht with e | e
    · subst e
      have h1 := List.all_eq_true.1 hs i hi
      obtain ⟨j, hj, hj2⟩ := List.any_eq_true.1 h1
      simp only [Bool.and_eq_true, decide_eq_true_eq] at hj2
      obtain ⟨oj, hoj, e, he, hb, hon⟩ := Region.waitsFor_spec hj2.2
      rcases List.mem_cons.1 hj with hjt | hjt
      · subst hjt
        have : oj = ot := Option.some.inj (hoj.symm.trans hot)
        subst this
        have h2 := hall e he hb
        rw [hon, getD_both hun] at h2
        cases h2
      · have hjN := hN j (List.mem_cons_of_mem _ hjt)
        cases hl : ls.getD j false with
        | true =>
          have h2 := inv.closed j oj hoj hl e he hb
          rw [hon, getD_both hun] at h2
          cases h2
        | false =>
          have hjs : j < ls.size := by rw [inv.size]; exact hsz j (List.mem_cons_of_mem _ hjt)
          exact ih (N - j) (by omega) j rfl hjt (getD_in hjs hl) t ht hr
    · obtain ⟨s, hs1, hs2⟩ := chainL_prev hc t (by simpa using e)
      obtain ⟨o', ho', e', he, hb, hon⟩ := Region.waitsFor_spec hs2
      have : o' = ot := Option.some.inj (ho'.symm.trans hot)
      subst this
      have h2 := hall e' he hb
      have h3 := hT s hs1
      rw [hon, getD_both (inv.rest s h3.1 h3.2)] at h2
      cases h2
/-- One that may come up now may be taken first. -/
theorem mixQ_first {ls1 : Array Bool} {H : Nat → Prop} {i : Nat} {oi : Oper} {v : Value} {L : Array Bool → Act → Prop} (hi : ops[i]? = some oi) (hsel : ∀ (j : Nat) (o : Oper) cs b, ops[j]? = some o → o.op ≠ .select cs b)
    (hwait : ∀ ls, MixInv ops ls1 H ls → ∀ i, H i → ls.getD i true = false → ∀ t, t ∈ Region.ready .any ops ls → H t) (hin : H i) (hdone : ∀ ls a, L ls a → ∀ j ∈ Region.ready .any ops ls, ¬ H j) (f : Nat) :
    ∀ (ls : Array Bool) (a : Act), MixInv ops ls1 H ls →
      (∀ j oj, ops[j]? = some oj → j ≠ i → ls.getD j true = false → (∀ e ∈ oj.after, Region.binds .any e = true → e.on ≠ i) → oi.apart ops oj = true) →
      i ∈ Region.ready .any ops ls → YieldsIn P ops C oi v a → mixQ P ops C H L f (ls.setIfInBounds i true) (a.put oi.dst v) → mixQ P ops C H L (f + 1) ls a := by
  induction f with
  | zero =>
    intro ls a inv _ hr hy H'
    have hun := (mem_ready.1 hr).1
    refine ⟨List.ne_nil_of_mem hr, fun j hj => ?_⟩
    have hjn : H j := hwait ls inv i hin hun j hj
    by_cases e : j = i
    · rw [e] at hjn ⊢; exact ⟨hjn, hy.qOp hi H'⟩
    · exact absurd hjn (hdone _ _ H' j (ready_mono hj e))
  | succ f ih =>
    intro ls a inv hfree hr hy H'
    have hun := (mem_ready.1 hr).1
    refine ⟨List.ne_nil_of_mem hr, fun j hj => ?_⟩
    have hjn : H j := hwait ls inv i hin hun j hj
    by_cases e : j = i
    · rw [e] at hjn ⊢; exact ⟨hjn, hy.qOp hi H'⟩
    · refine ⟨hjn, ?_⟩
      obtain ⟨hjun, oj, hoj, hall⟩ := mem_ready.1 hj
      have hno : ∀ x ∈ oj.after, Region.binds .any x = true → x.on ≠ i := by
        intro x hx hb he
        have := hall x hx hb
        rw [he, getD_both hun] at this
        cases this
      have h2 := qOp_put hoj (hfree j oj hoj e hjun hno) (fun cs b => hsel i oi cs b hi) (fun cs b => hsel j oj cs b hoj) hy (H'.2 j (ready_mono hj e)).2
      refine qOp_mono (fun a' h3 => ih _ a' (inv.set hj hjn) (fun k ok hk hki hku hkn => hfree k ok hk hki ?_ hkn) (ready_mono hr (Ne.symm e)) h3.1 (by rw [Array.setIfInBounds_comm _ _ e]; exact h3.2)) h2
      by_cases hjk : j = k
      · rw [← hjk]; exact hjun
      · rwa [getD_set_ne true hjk] at hku
def quietsB (ops : Array Oper) (tl : List Nat) : List Nat → Array Bool → Bool
  | [], ls => tailB .any ops tl ls
  | k :: r, ls => (ops[k]?).isSome && (Region.ready .any ops ls).contains k && Region.free .any ops ls k && quietsB ops tl r (ls.setIfInBounds k true)
theorem mixQ_lex {ls1 : Array Bool} {H : Nat → Prop} {K : Act → Prop} {tl : List Nat} (hsel : Region.noSelect ops = true) (hwait : ∀ ls, MixInv ops ls1 H ls → ∀ i, H i → ls.getD i true = false → ∀ t, t ∈ Region.ready .any ops ls → H t)
    (htl : ∀ t ∈ tl, ¬ H t) (l : List Nat) :
    ∀ (ls : Array Bool) (a : Act), (∀ k ∈ l, H k) → MixInv ops ls1 H ls → quietsB ops tl l ls = true →
    wpQuiet P ops C K (l.map (ops.getD · default)) a → mixQ P ops C H (fun ls' a' => tailB .any ops tl ls' = true ∧ K a') l.length ls a := by
  have hdone : ∀ ls' (a' : Act), (tailB .any ops tl ls' = true ∧ K a') → ∀ j ∈ Region.ready .any ops ls', ¬ H j := by
    intro ls' a' h j hj
    cases tl with
    | nil => simp only [tailB, List.isEmpty_iff] at h; rw [h.1] at hj; cases hj
    | cons t r =>
      simp only [tailB, Bool.and_eq_true, decide_eq_true_eq] at h
      rw [h.1.1.1] at hj
      have : j = t := by simpa using hj
      subst this
      exact htl _ (by simp)
  induction l with
  | nil => intro ls a _ _ hB h; exact ⟨by simpa [quietsB] using hB, h⟩
  | cons k r ih =>
    intro ls a hl inv hB h
    simp only [quietsB, Bool.and_eq_true] at hB
    obtain ⟨o, ho⟩ := Option.isSome_iff_exists.1 hB.1.1.1
    have hr : k ∈ Region.ready .any ops ls := by simpa using hB.1.1.2
    have hk : ops.getD k default = o := by simp [Array.getD_eq_getD_getElem?, ho]
    rw [List.map_cons, hk] at h
    have hq : qOp P ops C k (wpQuiet P ops C K (r.map (ops.getD · default))) a := by unfold qOp; simp only [ho]; exact h
    obtain ⟨v, hy, hK⟩ := yieldsIn_of_qOp ho hq
    refine mixQ_first ho (Region.noSelect_spec hsel) hwait (hl k (by simp)) hdone r.length ls a inv (Region.free_spec ho hB.1.2) hr hy ?_
    exact ih _ _ (fun k' hk' => hl k' (List.mem_cons_of_mem _ hk')) (inv.set hr (hl k (by simp))) hB.2 hK
/-- All that the order of a mixed region asks: decided by running it. -/
def mixB (ops : Array Oper) (hd qs : List Nat) (t0 : Nat) (tr : List Nat) : Bool :=
  let ls0 := Array.replicate ops.size false
  let ls1 := markB hd ls0
  Region.noSelect ops && pureB .any ops hd ls0 && quietsB ops (t0 :: tr) qs ls1 && sinkL ops qs t0 && chainL ops (t0 :: tr) &&
    (t0 :: tr).all (fun t => !qs.contains t && !(ls1.getD t true)) && (t0 :: qs).all (fun i => decide (i < ops.size)) && decide (hd.length + (qs.length + (t0 :: tr).length) = ops.size) &&
    (List.range ops.size).all (fun i => ls1.getD i true || qs.contains i || (t0 :: tr).contains i) && decide (ls1.size = ops.size) &&
    (List.range ops.size).all (fun j => match ops[j]? with | some oj => !(ls1.getD j false) || oj.after.all (fun e => !Region.binds .any e || ls1.getD e.on false) | none => true)
end
/-- 'hd' read no memory and are taken first; 'qs' are quiet in every world that w grows to (calls may lay new memory); t0 :: tr come behind, in that order. -/
theorem wp_region_mix {P : Program} {id : Nat} {R : Exit → Act → World → Prop} {a : Act} {w : World} {l : List Oper} (hd qs : List Nat) (t0 : Nat) (tr : List Nat) (hm : P.follows .mixedOrders = true)
    (hB : mixB l.toArray hd qs t0 tr = true) (hQ : ∀ c a d v w, R (.panic c) (Act.put a d v) w → R (.panic c) a w)
    (h : wpQuiet P l.toArray (fun _ => True) (fun a' => wpQuiet P l.toArray (fun w' => ∃ m : QW w, w' = m.val) (fun a'' => ∀ w', (∃ m : QW w, w' = m.val) → wpList P l.toArray R ((t0 :: tr).map (l.toArray.getD · default)) a'' w') (qs.map (l.toArray.getD · default)) a') (hd.map (l.toArray.getD · default)) a) :
    (Code.region id l.toArray true).wp P R a w := by
  simp only [mixB, Bool.and_eq_true, decide_eq_true_eq] at hB
  obtain ⟨⟨⟨⟨⟨⟨⟨⟨⟨⟨h1, h2⟩, h3⟩, h4⟩, h5⟩, h6⟩, h7⟩, h8⟩, h9⟩, h10⟩, h11⟩ := hB
  refine wp_region_held (S := fun _ => True) hm ?_
  rw [← h8]
  have e2 : Array.replicate (hd.length + (qs.length + (t0 :: tr).length)) false = Array.replicate l.toArray.size false := by rw [h8]
  rw [e2]
  generalize hls : markB hd (Array.replicate l.toArray.size false) = ls1 at *
  refine any_head h1 hQ _ _ hd _ a h2 (wpQuiet_mono (fun a' h' => ?_) _ _ h)
  rw [hls]
  refine held_of_any _ _ _ _ ?_
  have hT : ∀ t ∈ t0 :: tr, t ∉ qs ∧ ls1.getD t true = false := by
    intro t ht
    have := List.all_eq_true.1 h6 t ht
    simpa using this
  have hsz : ∀ i ∈ t0 :: qs, i < l.toArray.size := fun i hi => by have := List.all_eq_true.1 h7 i hi; simpa using this
  have hwait : ∀ ls, MixInv l.toArray ls1 (· ∈ qs) ls → ∀ i, i ∈ qs → ls.getD i true = false → ∀ t, t ∈ Region.ready .any l.toArray ls → t ∈ qs := by
    intro ls inv i hi hun t ht
    obtain ⟨htun, ot, hot, _⟩ := mem_ready.1 ht
    have htl : t < l.toArray.size := (Array.getElem?_eq_some_iff.1 hot).1
    have := List.all_eq_true.1 h9 t (List.mem_range.2 htl)
    simp only [Bool.or_eq_true, List.contains_iff_mem] at this
    rcases this with (g | g) | g
    · rw [inv.more t g] at htun; cases htun
    · exact g
    · exact absurd ht (mix_waits hsz h4 h5 hT hsz inv _ i rfl hi hun t g)
  have inv0 : MixInv l.toArray ls1 (· ∈ qs) ls1 := ⟨h10, fun j oj hj hl e he hb => by
    have hjl : j < l.toArray.size := (Array.getElem?_eq_some_iff.1 hj).1
    have := List.all_eq_true.1 h11 j (List.mem_range.2 hjl)
    rw [hj] at this
    simp only [hl, Bool.not_true, Bool.false_or] at this
    have := Array.all_eq_true'.1 this e he
    simpa [hb] using this, fun t _ h => h, fun t h => h⟩
  have H := mixQ_lex (C := fun w' => ∃ m : QW w, w' = m.val) h1 hwait (fun t ht => (hT t ht).1) qs ls1 a' (fun k hk => hk) inv0 h3 h'
  exact any_of_mixQ (fun ls a w hw hL => wpAny_of_held _ _ _ _ (any_tail _ _ _ _ hL.1 (hL.2 w hw))) _ _ _ _ ⟨⟨w.drew, (Q.refl w).drew⟩, rfl⟩ H
/-- A whole array or struct that stands in a block is read alike in every world of the class. -/
theorem wpQuiet_load_row {P : Program} {ops : Array Oper} {C : World → Prop} {K : Act → Prop} {rest : List Oper} {o : Oper} {a : Act} (hgd : o.guard = none) (ty : TypeId) (x : Operand) (ho : o.op = .load ty x)
    (g : Nat) (hx : a.eval x = .pointer (some ⟨g, 0, none⟩)) (t : TypeId) (cs : Array Value) (fr : Nat × Nat) (d : TypeDesc) (hg : ∀ w, C w → w.heap[g]? = some (.cells cs t fr))
    (hu : P.underlying ty = some d) (hd : (match d with | .struct _ | .array _ _ => true | _ => false) = true) (hi : (P.info? ty).map (·.size) = some cs.size)
    (h : wpQuiet P ops C K rest (a.put o.dst (.agg cs))) : wpQuiet P ops C K (o :: rest) a := by
  have hw : Region.wanted o (yielded ops a.tmps) = true := by simp [Region.wanted, hgd]
  unfold wpQuiet
  rw [if_pos hw]
  refine ⟨_, fun w hC => ?_, h⟩
  unfold Oper.quietAt execOp
  simp only [ho, hx, Instr.loadAt, Instr.sureAddr, Sem.run_bind, Sem.run_pure, Result.andThen_ok, run_loadVar_row w g t ty cs fr d (hg w hC) hu hd hi]
  exact ⟨rfl, rfl⟩
/-- A conversion that answers alike in every world of the class. -/
theorem wpQuiet_conv {P : Program} {ops : Array Oper} {C : World → Prop} {K : Act → Prop} {rest : List Oper} {o : Oper} {a : Act} (hgd : o.guard = none) (s d : TypeId) (x : Operand) (ho : o.op = .convert s d x) (v u : Value)
    (hx : a.eval x = v) (hr : ∀ w, C w → (convert s d v).run P w = .ok u w) (h : wpQuiet P ops C K rest (a.put o.dst u)) : wpQuiet P ops C K (o :: rest) a := by
  have hw : Region.wanted o (yielded ops a.tmps) = true := by simp [Region.wanted, hgd]
  unfold wpQuiet
  rw [if_pos hw]
  refine ⟨_, fun w hC => ?_, h⟩
  unfold Oper.quietAt execOp
  simp only [ho, hx, Sem.run_bind, Sem.run_pure, hr w hC, Result.andThen_ok]
  exact ⟨rfl, rfl⟩
end Go.Proofs.YtcbepjepcabllaaGreatDoor
/- A drawn region within a round of a range over a function: a plain law on it serves there too. -/
set_option linter.unusedVariables false
namespace Go.Proofs.YtcbepjepcabllaaGreatDoor
open Go Go.RowKit
section
variable {P : Program} {ops : Array Oper} {Q : Exit → Act → World → Prop} {l n : Nat}
theorem upon_in {o : Oper} {a : Act} {next : Act → World → Prop} (r : Result Next) (h : o.upon P a next Q r) : o.uponIn (Fence.wide.inRound l) n P a next Q r := by
  cases r with
  | ok x w' =>
    cases x with
    | value v => exact h
    | skip => exact h
    | defer d => exact h
    | enter f args => exact ⟨fun h => by simp [Fence.wide, Fence.inRound] at h, CallsIn.inRound l (callsIn_wide.2 h)⟩
    | row r args => exact ⟨fun h => by simp [Fence.wide, Fence.inRound] at h, fun c cs _ => let ⟨v, w', r, s⟩ := h c cs; ⟨v, w', r, stepsIn_wide.2 s⟩⟩
    | _ => first | exact h.elim | exact h
  | halt x w' =>
    cases x <;> exact h
theorem wpOp_in {i : Nat} {K : Act → World → Prop} {a : Act} {w : World} (hQ : ¬ LetsOut Q) (hnd : ∀ (i : Nat) (o : Oper) (c : Call), ops[i]? = some o → o.op ≠ .defer c) (h : wpOp P ops Q i K a w) : wpOpIn (Fence.wide.inRound l) n P ops Q i K a w := by
  unfold wpOp at h
  unfold wpOpIn
  cases ho : ops[i]? with
  | none => rw [ho] at h; exact h
  | some o =>
    rw [ho] at h
    simp only at h ⊢
    by_cases hw : Region.wanted o (yielded ops a.tmps) = true
    · rw [if_pos hw] at h ⊢
      rcases h with h | ⟨_, h⟩
      · refine ⟨fun _ _ => trivial, ?_⟩
        rw [Oper.semAt_eq _ _ _ (fun c => hnd i o c ho)]
        exact upon_in _ h
      · exact absurd h hQ
    · rw [if_neg hw] at h ⊢
      exact ⟨fun _ _ => trivial, h⟩
theorem wpOpIn_K {i : Nat} {K K' : Act → World → Prop} {a : Act} {w : World} (hk : ∀ a w, K a w → K' a w) (h : wpOpIn (Fence.wide.inRound l) n P ops Q i K a w) : wpOpIn (Fence.wide.inRound l) n P ops Q i K' a w := wpOpIn_mono hk h
theorem wpAny_in {md : Region.Mode} (hQ : ¬ LetsOut Q) (hnd : ∀ (i : Nat) (o : Oper) (c : Call), ops[i]? = some o → o.op ≠ .defer c) (f : Nat) : ∀ (ls : Array Bool) (a : Act) (w : World), wpAny P md ops Q f ls a w → wpAnyIn (Fence.wide.inRound l) n P md ops Q f ls a w := by
  induction f with
  | zero => intro ls a w h; exact h
  | succ f ih => intro ls a w h; exact ⟨h.1, fun i hi => wpOpIn_mono (fun a w => ih _ a w) (wpOp_in hQ hnd (h.2 i hi))⟩
def noDefer (ops : Array Oper) : Bool := ops.all fun o => match o.op with | .defer _ => false | _ => true
theorem noDefer_spec (h : noDefer ops = true) : ∀ (i : Nat) (o : Oper) (c : Call), ops[i]? = some o → o.op ≠ .defer c := by
  intro i o c ho e
  have h1 := Array.all_eq_true.1 h
  obtain ⟨hi, ho'⟩ := Array.getElem?_eq_some_iff.1 ho
  have h2 := h1 i hi
  rw [ho'] at h2
  simp only [e, Bool.false_eq_true] at h2
/-- A region law's own end, taken within a round. -/
theorem wpIn_region_round {id : Nat} {a : Act} {w : World} (hm : P.follows .mixedOrders = true) (hQ : ¬ LetsOut Q) (hnd : noDefer ops = true)
    (h : wpAny P .any ops Q ops.size (Array.replicate ops.size false) a { w with drawn := w.drawn + 1 }) : (Code.region id ops true).wpIn (Fence.wide.inRound l) n P Q a w :=
  wpIn_region_any hm (wpAny_in hQ (noDefer_spec hnd) _ _ _ _ h)
end
theorem wpIn_quiet_tail {C : World → Prop} {P : Program} {id : Nat} {R : Exit → Act → World → Prop} {a : Act} {w : World} {l : List Oper} (n : Nat) (hm : P.follows .mixedOrders = true) (hLO : ¬ LetsOut R) (hND : noDefer l.toArray = true) {r n0 : Nat} (hB : Region.lexTailB .any l.toArray n = true)
    (hC : C { w with drawn := w.drawn + 1 }) (h : wpQuiet P l.toArray C (fun a' => ∀ w', C w' → wpList P l.toArray R (l.drop n) a' w') (l.take n) a) : (Code.region id l.toArray true).wpIn (Fence.wide.inRound r) n0 P R a w := by
  simp only [Region.lexTailB, Bool.and_eq_true, decide_eq_true_eq] at hB
  have hn : n < l.length := by simpa using hB.1.1.1.2
  have htl : (l.take n).length = n := by simp; omega
  have hdl : (l.drop n).length = l.toArray.size - n := by simp
  have inv0 : HeadInv .any l.toArray n (Array.replicate l.toArray.size false) :=
    ⟨by simp, fun j oj _ hl => (by rw [getD_replicate_false] at hl; cases hl), fun t _ ht => getD_in (by simpa using ht) (getD_replicate_false _ _)⟩
  have H := headQ_lex (md := .any) (C := C) (g := l.toArray.size - n) hB.1.1.1.1 hB.1.1.2 hB.1.2 hB.1.1.1.2 (l.take n) 0 _ a (fun j hj => by rw [htl] at hj; simp [hj]) (by simpa using htl) inv0 (by rw [htl]; exact hB.2) h
  refine wpIn_region_round hm hLO hND ?_
  have := any_of_headQ (C := C) (R := R) (g := l.toArray.size - n) (fun ls a' w' hw' hL => by
    have h1 := wpAny_of_seq (md := .any) (Q' := R) (l.drop n) n ls a' w' (fun j => by simp [List.getElem?_drop]) (by rw [hdl]; exact hL.1) (hL.2 w' hw')
    rwa [hdl] at h1) _ _ _ _ hC H
  have hsz : n + (l.toArray.size - n) = l.toArray.size := by
    have : l.toArray.size = l.length := by simp
    omega
  rwa [htl, hsz] at this
theorem wpIn_pure {P : Program} {id : Nat} {R : Exit → Act → World → Prop} {a : Act} {w : World} {l : List Oper} (hd tl : List Nat) (hm : P.follows .mixedOrders = true) (hLO : ¬ LetsOut R) (hND : noDefer l.toArray = true) {r n0 : Nat}
    (hB : (Region.noSelect l.toArray && pureB .any l.toArray hd (Array.replicate l.length false) && tailB .any l.toArray tl (markB hd (Array.replicate l.length false)) && decide (hd.length + tl.length = l.length)) = true)
    (hQ : ∀ c a d v w, R (.panic c) (Act.put a d v) w → R (.panic c) a w)
    (h : wpQuiet P l.toArray (fun _ => True) (fun a' => wpList P l.toArray R (tl.map (l.toArray.getD · default)) a' w.drew) (hd.map (l.toArray.getD · default)) a) : (Code.region id l.toArray true).wpIn (Fence.wide.inRound r) n0 P R a w := by
  simp only [Bool.and_eq_true, decide_eq_true_eq] at hB
  obtain ⟨⟨⟨h1, h2⟩, h3⟩, h4⟩ := hB
  refine wpIn_region_round hm hLO hND (wpAny_of_held (S := fun _ => True) _ _ _ _ ?_)
  have e : l.toArray.size = hd.length + tl.length := by simp [h4]
  rw [e]
  have e2 : Array.replicate (hd.length + tl.length) false = Array.replicate l.length false := by rw [h4]
  rw [e2]
  refine any_head h1 hQ tl.length _ hd _ a h2 ?_
  exact wpQuiet_mono (fun a' h' => any_tail tl _ a' _ h3 h') _ _ h
theorem wpIn_mix {P : Program} {id : Nat} {R : Exit → Act → World → Prop} {a : Act} {w : World} {l : List Oper} (hd qs : List Nat) (t0 : Nat) (tr : List Nat) (hm : P.follows .mixedOrders = true) (hLO : ¬ LetsOut R) (hND : noDefer l.toArray = true) {r n0 : Nat}
    (hB : mixB l.toArray hd qs t0 tr = true) (hQ : ∀ c a d v w, R (.panic c) (Act.put a d v) w → R (.panic c) a w)
    (h : wpQuiet P l.toArray (fun _ => True) (fun a' => wpQuiet P l.toArray (fun w' => ∃ m : QW w, w' = m.val) (fun a'' => ∀ w', (∃ m : QW w, w' = m.val) → wpList P l.toArray R ((t0 :: tr).map (l.toArray.getD · default)) a'' w') (qs.map (l.toArray.getD · default)) a') (hd.map (l.toArray.getD · default)) a) :
    (Code.region id l.toArray true).wpIn (Fence.wide.inRound r) n0 P R a w := by
  simp only [mixB, Bool.and_eq_true, decide_eq_true_eq] at hB
  obtain ⟨⟨⟨⟨⟨⟨⟨⟨⟨⟨h1, h2⟩, h3⟩, h4⟩, h5⟩, h6⟩, h7⟩, h8⟩, h9⟩, h10⟩, h11⟩ := hB
  refine wpIn_region_round hm hLO hND (wpAny_of_held (S := fun _ => True) _ _ _ _ ?_)
  rw [← h8]
  have e2 : Array.replicate (hd.length + (qs.length + (t0 :: tr).length)) false = Array.replicate l.toArray.size false := by rw [h8]
  rw [e2]
  generalize hls : markB hd (Array.replicate l.toArray.size false) = ls1 at *
  refine any_head h1 hQ _ _ hd _ a h2 (wpQuiet_mono (fun a' h' => ?_) _ _ h)
  rw [hls]
  refine held_of_any _ _ _ _ ?_
  have hT : ∀ t ∈ t0 :: tr, t ∉ qs ∧ ls1.getD t true = false := by
    intro t ht
    have := List.all_eq_true.1 h6 t ht
    simpa using this
  have hsz : ∀ i ∈ t0 :: qs, i < l.toArray.size := fun i hi => by have := List.all_eq_true.1 h7 i hi; simpa using this
  have hwait : ∀ ls, MixInv l.toArray ls1 (· ∈ qs) ls → ∀ i, i ∈ qs → ls.getD i true = false → ∀ t, t ∈ Region.ready .any l.toArray ls → t ∈ qs := by
    intro ls inv i hi hun t ht
    obtain ⟨htun, ot, hot, _⟩ := mem_ready.1 ht
    have htl : t < l.toArray.size := (Array.getElem?_eq_some_iff.1 hot).1
    have := List.all_eq_true.1 h9 t (List.mem_range.2 htl)
    simp only [Bool.or_eq_true, List.contains_iff_mem] at this
    rcases this with (g | g) | g
    · rw [inv.more t g] at htun; cases htun
    · exact g
    · exact absurd ht (mix_waits hsz h4 h5 hT hsz inv _ i rfl hi hun t g)
  have inv0 : MixInv l.toArray ls1 (· ∈ qs) ls1 := ⟨h10, fun j oj hj hl e he hb => by
    have hjl : j < l.toArray.size := (Array.getElem?_eq_some_iff.1 hj).1
    have := List.all_eq_true.1 h11 j (List.mem_range.2 hjl)
    rw [hj] at this
    simp only [hl, Bool.not_true, Bool.false_or] at this
    have := Array.all_eq_true'.1 this e he
    simpa [hb] using this, fun t _ h => h, fun t h => h⟩
  have H := mixQ_lex (C := fun w' => ∃ m : QW w, w' = m.val) h1 hwait (fun t ht => (hT t ht).1) qs ls1 a' (fun k hk => hk) inv0 h3 h'
  exact any_of_mixQ (fun ls a w hw hL => wpAny_of_held _ _ _ _ (any_tail _ _ _ _ hL.1 (hL.2 w hw))) _ _ _ _ ⟨⟨w.drew, (Q.refl w).drew⟩, rfl⟩ H
theorem wpIn_quiet {P : Program} {ops : Array Oper} {C : World → Prop} {id : Nat} {Q : Exit → Act → World → Prop} {a : Act} {w : World} {r n0 : Nat} (hm : P.follows .mixedOrders = true) (hLO : ¬ LetsOut Q) (hND : noDefer ops = true) (hB : Region.lexB .any ops = true) (hC : C { w with drawn := w.drawn + 1 })
    (h : wpQuiet P ops C (fun a' => ∀ w', C w' → Q .normal a' w') ops.toList a) : (Code.region id ops true).wpIn (Fence.wide.inRound r) n0 P Q a w := by
  simp only [Region.lexB, Bool.and_eq_true] at hB
  refine wpIn_region_round hm hLO hND (wpAny_of_quiet (Q := fun a' => ∀ w', C w' → Q .normal a' w') (fun _ w' hw' h => h w' hw') _ _ _ _ hC ?_)
  have := wpAnyQ_lex (C := C) (md := .any) hB.1 ops.toList 0 (Array.replicate ops.size false) a (by simp) (by simpa using hB.2) h
  simpa using this
theorem wpOps_in {P : Program} {ops : Array Oper} {Q : Exit → Act → World → Prop} {r n0 : Nat} (hQ : ¬ LetsOut Q) (hnd : ∀ (i : Nat) (o : Oper) (c : Call), ops[i]? = some o → o.op ≠ .defer c) (l : List Nat) : ∀ (a : Act) (w : World), wpOps P ops Q l a w → wpOpsIn (Fence.wide.inRound r) n0 P ops Q l a w := by
  induction l with
  | nil => intro a w h; exact h
  | cons i l ih =>
    intro a w h
    rw [wpOps_cons] at h
    rw [wpOpsIn_cons]
    exact wpOpIn_mono (fun a w => ih a w) (wpOp_in hQ hnd h)
/-- A region that does not draw. -/
theorem wpIn_list {P : Program} {id : Nat} {l : List Oper} {Q : Exit → Act → World → Prop} {a : Act} {w : World} {r n0 : Nat} (hLO : ¬ LetsOut Q) (hND : noDefer l.toArray = true) (h : wpList P l.toArray Q l a w) : (Code.region id l.toArray false).wpIn (Fence.wide.inRound r) n0 P Q a w :=
  wpIn_region (wpOps_in hLO (noDefer_spec hND) _ _ _ (by
    rw [List.range_eq_range', ← Array.length_toList, wpOps_eq_wpList l.toArray.toList 0 (by simp)]
    simpa using h))
end Go.Proofs.YtcbepjepcabllaaGreatDoor
