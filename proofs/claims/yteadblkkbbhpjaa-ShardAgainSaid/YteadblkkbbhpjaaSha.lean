/- SHA-256 and MD5, plain: on lists of bytes. -/
import Derived.Test.YteadblkkbbhpjaaBase
set_option linter.unusedVariables false
namespace Go.Proofs.Yteadblkkbbhpjaa
abbrev B32 := BitVec 32
def rl (s : Nat) (x : B32) : B32 := (x <<< s) ||| (x >>> (32 - s))
def xo (x y : B32) : B32 := x ^^^ y
def an (x y : B32) : B32 := x &&& y
def oo (x y : B32) : B32 := x ||| y
def no (x : B32) : B32 := ~~~ x
def ad (x y : B32) : B32 := x + y
def sr (n : Nat) (x : B32) : B32 := x >>> n
/-- Four bytes, the highest first, the lowest first. -/
def be (a b c d : UInt8) : B32 := BitVec.ofNat 32 (a.toNat * 16777216 + b.toNat * 65536 + c.toNat * 256 + d.toNat)
/-- The word at a place. -/
def gW (l : List B32) (i : Nat) : B32 := l.getD i 0#32
def k256 : List B32 := [
    1116352408, 1899447441, 3049323471, 3921009573, 961987163, 1508970993, 2453635748, 2870763221,
    3624381080, 310598401, 607225278, 1426881987, 1925078388, 2162078206, 2614888103, 3248222580,
    3835390401, 4022224774, 264347078, 604807628, 770255983, 1249150122, 1555081692, 1996064986,
    2554220882, 2821834349, 2952996808, 3210313671, 3336571891, 3584528711, 113926993, 338241895,
    666307205, 773529912, 1294757372, 1396182291, 1695183700, 1986661051, 2177026350, 2456956037,
    2730485921, 2820302411, 3259730800, 3345764771, 3516065817, 3600352804, 4094571909, 275423344,
    430227734, 506948616, 659060556, 883997877, 958139571, 1322822218, 1537002063, 1747873779,
    1955562222, 2024104815, 2227730452, 2361852424, 2428436474, 2756734187, 3204031479, 3329325298]
def k5 : List B32 := [
    3614090360, 3905402710, 606105819, 3250441966, 4118548399, 1200080426, 2821735955, 4249261313,
    1770035416, 2336552879, 4294925233, 2304563134, 1804603682, 4254626195, 2792965006, 1236535329,
    4129170786, 3225465664, 643717713, 3921069994, 3593408605, 38016083, 3634488961, 3889429448,
    568446438, 3275163606, 4107603335, 1163531501, 2850285829, 4243563512, 1735328473, 2368359562,
    4294588738, 2272392833, 1839030562, 4259657740, 2763975236, 1272893353, 4139469664, 3200236656,
    681279174, 3936430074, 3572445317, 76029189, 3654602809, 3873151461, 530742520, 3299628645,
    4096336452, 1126891415, 2878612391, 4237533241, 1700485571, 2399980690, 4293915773, 2240044497,
    1873313359, 4264355552, 2734768916, 1309151649, 4149444226, 3174756917, 718787259, 3951481745]
def mixS (x : B32) : B32 := xo (xo (rl 25 x) (rl 14 x)) (sr 3 x)
def mixT (x : B32) : B32 := xo (xo (rl 15 x) (rl 13 x)) (sr 10 x)
/-- One word more of a block's 64. -/
def wordN (b : List UInt8) (w : List B32) (i : Nat) : B32 :=
  if i < 16 then be (gB b (4 * i)) (gB b (4 * i + 1)) (gB b (4 * i + 2)) (gB b (4 * i + 3))
  else ad (ad (ad (gW w (i - 16)) (mixS (gW w (i - 15)))) (gW w (i - 7))) (mixT (gW w (i - 2)))
def wordsN (b : List UInt8) : Nat → List B32
  | 0 => []
  | n + 1 => let w := wordsN b n; w ++ [wordN b w n]
structure St8 where
  (a b c d e f g h : B32)
def round8 (w : List B32) (s : St8) (i : Nat) : St8 :=
  let t := ad (ad (ad (ad s.h (xo (xo (rl 26 s.e) (rl 21 s.e)) (rl 7 s.e))) (xo (an s.e s.f) (an (no s.e) s.g))) (gW k256 i)) (gW w i)
  let u := ad (xo (xo (rl 30 s.a) (rl 19 s.a)) (rl 10 s.a)) (xo (xo (an s.a s.b) (an s.a s.c)) (an s.b s.c))
  ⟨ad t u, s.a, s.b, s.c, ad s.d t, s.e, s.f, s.g⟩
def roundsN (w : List B32) (s : St8) : Nat → St8
  | 0 => s
  | n + 1 => round8 w (roundsN w s n) n
def add8 (s t : St8) : St8 := ⟨ad s.a t.a, ad s.b t.b, ad s.c t.c, ad s.d t.d, ad s.e t.e, ad s.f t.f, ad s.g t.g, ad s.h t.h⟩
/-- One block of 64 bytes. -/
def mix256L (s : St8) (b : List UInt8) : St8 := add8 s (roundsN (wordsN b 64) s 64)
def start256 : St8 := ⟨0x6a09e667#32, 0xbb67ae85#32, 0x3c6ef372#32, 0xa54ff53a#32, 0x510e527f#32, 0x9b05688c#32, 0x1f83d9ab#32, 0x5be0cd19#32⟩
/-- The first n blocks of a text. -/
def blocks256 (l : List UInt8) : Nat → St8
  | 0 => start256
  | n + 1 => mix256L (blocks256 l n) (sub l (64 * n) (64 * n + 64))
/-- A text with a bit 1, bits 0 and its size behind it. -/
def padL (high : Bool) (l : List UInt8) : List UInt8 :=
  let z : Nat := (119 - l.length % 64) % 64
  let b : List UInt8 := (List.range 8).map fun i => byteOf ((((8 * l.length) / 256 ^ i % 256 : Nat) : Int))
  l ++ [128] ++ List.replicate z 0 ++ (if high then b.reverse else b)
def be4 (x : B32) : List UInt8 := [byteOf ((x.toNat / 16777216 % 256 : Nat) : Int), byteOf ((x.toNat / 65536 % 256 : Nat) : Int), byteOf ((x.toNat / 256 % 256 : Nat) : Int), byteOf ((x.toNat % 256 : Nat) : Int)]
def out8 (s : St8) : List UInt8 := be4 s.a ++ be4 s.b ++ be4 s.c ++ be4 s.d ++ be4 s.e ++ be4 s.f ++ be4 s.g ++ be4 s.h
def sha256 (l : List UInt8) : List UInt8 := let p := padL true l; out8 (blocks256 p (p.length / 64))
theorem wordsN_length (b : List UInt8) (n : Nat) : (wordsN b n).length = n := by
  induction n with
  | zero => rfl
  | succ n ih => simp [wordsN, ih]
/-- The words so far, the others 0. -/
def wordsZ (b : List UInt8) (k : Nat) : List B32 := wordsN b k ++ List.replicate (64 - k) 0#32
theorem wordsZ_old (b : List UInt8) (k i : Nat) (h : i < k) : gW (wordsZ b k) i = gW (wordsN b k) i := by
  unfold gW wordsZ
  simp [List.getD, List.getElem?_append, wordsN_length, h]
theorem wordsZ_set (b : List UInt8) (k : Nat) (h : k < 64) : (wordsZ b k).set k (wordN b (wordsN b k) k) = wordsZ b (k + 1) := by
  unfold wordsZ
  rw [List.set_append, if_neg (by rw [wordsN_length]; omega), wordsN_length, Nat.sub_self]
  have e : 64 - k = (64 - (k + 1)) + 1 := by omega
  rw [e, List.replicate_succ]
  simp [wordsN]
theorem wordsZ_all (b : List UInt8) : wordsZ b 64 = wordsN b 64 := by simp [wordsZ]
theorem be_bits (a b c d : UInt8) : bits .or .u32 (bits .or .u32 (bits .or .u32 ((a.toNat : Int) % 4294967296 * 16777216 % 4294967296) ((b.toNat : Int) % 4294967296 * 65536 % 4294967296)) ((c.toNat : Int) % 4294967296 * 256 % 4294967296)) ((d.toNat : Int) % 4294967296) =
    ((be a b c d).toNat : Int) := by
  have a1 := a.toNat_lt
  have b1 := b.toNat_lt
  have c1 := c.toNat_lt
  have d1 := d.toNat_lt
  have wr : ∀ n : Int, 0 ≤ n → n < 2 ^ 32 → IntKind.u32.wrap n = n := fun n h0 h1 => by rw [IntKind.wrap_u32]; omega
  rw [show (a.toNat : Int) % 4294967296 * 16777216 % 4294967296 = (a.toNat : Int) * 16777216 from by omega, show (b.toNat : Int) % 4294967296 * 65536 % 4294967296 = (b.toNat : Int) * 65536 from by omega,
    show (c.toNat : Int) % 4294967296 * 256 % 4294967296 = (c.toNat : Int) * 256 from by omega, show (d.toNat : Int) % 4294967296 = (d.toNat : Int) from by omega]
  rw [bits_join .u32 32 (by decide) wr 24 ((a.toNat : Int) * 16777216) ((b.toNat : Int) * 65536) (by omega) (by omega) (by omega) (by omega) (by omega) (by omega)]
  rw [bits_join .u32 32 (by decide) wr 16 ((a.toNat : Int) * 16777216 + (b.toNat : Int) * 65536) ((c.toNat : Int) * 256) (by omega) (by omega) (by omega) (by omega) (by omega) (by omega)]
  rw [bits_join .u32 32 (by decide) wr 8 ((a.toNat : Int) * 16777216 + (b.toNat : Int) * 65536 + (c.toNat : Int) * 256) (d.toNat : Int) (by omega) (by omega) (by omega) (by omega) (by omega) (by omega)]
  unfold be
  rw [BitVec.toNat_ofNat]
  omega
end Go.Proofs.Yteadblkkbbhpjaa
