/- MD5, plain: on lists of bytes. -/
import Derived.Test.YteadblkkbbhpjaaSha
set_option linter.unusedVariables false
namespace Go.Proofs.Yteadblkkbbhpjaa
/-! MD5. -/
structure St4 where
  (a b c d : B32)
def start5 : St4 := ⟨0x67452301#32, 0xefcdab89#32, 0x98badcfe#32, 0x10325476#32⟩
def turns5 : List Nat := [7, 12, 17, 22, 5, 9, 14, 20, 4, 11, 16, 23, 6, 10, 15, 21]
/-- By how many bits a round turns. -/
def rot5 (i : Nat) : Nat := turns5.getD (4 * (i / 16) + i % 4) 0
def f5 (i : Nat) (b c d : B32) : B32 :=
  if i / 16 = 0 then xo d (an b (xo c d)) else if i / 16 = 1 then xo c (an d (xo b c)) else if i / 16 = 2 then xo (xo b c) d else xo c (oo b (no d))
def at5 (i : Nat) : Nat := if i / 16 = 0 then i else if i / 16 = 1 then 5 * i + 1 else if i / 16 = 2 then 3 * i + 5 else 7 * i
def word5 (bl : List UInt8) (i : Nat) : B32 := be (gB bl (4 * (at5 i % 16) + 3)) (gB bl (4 * (at5 i % 16) + 2)) (gB bl (4 * (at5 i % 16) + 1)) (gB bl (4 * (at5 i % 16)))
def round5 (bl : List UInt8) (s : St4) (i : Nat) : St4 :=
  ⟨s.d, ad s.b (rl (rot5 i) (ad (ad (ad s.a (f5 i s.b s.c s.d)) (gW k5 i)) (word5 bl i))), s.b, s.c⟩
def rounds5 (bl : List UInt8) (s : St4) : Nat → St4
  | 0 => s
  | n + 1 => round5 bl (rounds5 bl s n) n
def add4 (s t : St4) : St4 := ⟨ad s.a t.a, ad s.b t.b, ad s.c t.c, ad s.d t.d⟩
def mix5L (s : St4) (bl : List UInt8) : St4 := add4 s (rounds5 bl s 64)
def blocks5 (l : List UInt8) : Nat → St4
  | 0 => start5
  | n + 1 => mix5L (blocks5 l n) (sub l (64 * n) (64 * n + 64))
def le4 (x : B32) : List UInt8 := (be4 x).reverse
def out4 (s : St4) : List UInt8 := le4 s.a ++ le4 s.b ++ le4 s.c ++ le4 s.d
def md5 (l : List UInt8) : List UInt8 := let p := padL false l; out4 (blocks5 p (p.length / 64))
/-- "abc" -/
theorem md5_abc : md5 [97, 98, 99] = [0x90, 0x01, 0x50, 0x98, 0x3c, 0xd2, 0x4f, 0xb0, 0xd6, 0x96, 0x3f, 0x7d, 0x28, 0xe1, 0x7f, 0x72] := by decide +kernel
end Go.Proofs.Yteadblkkbbhpjaa
