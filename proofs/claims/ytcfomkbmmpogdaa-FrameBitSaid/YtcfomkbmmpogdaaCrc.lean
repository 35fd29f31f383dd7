/- CRC-32C on rows of bits: one bit, one byte, a text. -/
import Derived.WalkKit
set_option linter.unusedVariables false
namespace Go.Proofs.Ytcfomkbmmpogdaa
def sh1 (r : BitVec 32) : BitVec 32 := if r &&& 1#32 = 1#32 then (r >>> 1) ^^^ 0x82F63B78#32 else r >>> 1
def shN : Nat → BitVec 32 → BitVec 32
  | 0, r => r
  | n + 1, r => sh1 (shN n r)
def bv8 (b : UInt8) : BitVec 32 := BitVec.ofNat 32 b.toNat
def shB (r : BitVec 32) (b : UInt8) : BitVec 32 := shN 8 (r ^^^ bv8 b)
def shL (r : BitVec 32) (l : List UInt8) : BitVec 32 := l.foldl shB r
def bnot (x : BitVec 32) : BitVec 32 := ~~~ x
theorem bnot_bnot (x : BitVec 32) : bnot (bnot x) = x := BitVec.not_not
def crcMore (s : BitVec 32) (l : List UInt8) : BitVec 32 := bnot (shL (bnot s) l)
def crcSum (l : List UInt8) : BitVec 32 := crcMore 0#32 l
theorem bv8_toNat (b : UInt8) : ((bv8 b).toNat : Int) = (b.toNat : Int) := by
  unfold bv8; rw [BitVec.toNat_ofNat]; have := b.toNat_lt; omega
theorem shL_snoc (r : BitVec 32) (l : List UInt8) (b : UInt8) : shL r (l ++ [b]) = shB (shL r l) b := by
  unfold shL; rw [List.foldl_append]; rfl
theorem shL_append (r : BitVec 32) (l m : List UInt8) : shL r (l ++ m) = shL (shL r l) m := by
  unfold shL; rw [List.foldl_append]
end Go.Proofs.Ytcfomkbmmpogdaa
