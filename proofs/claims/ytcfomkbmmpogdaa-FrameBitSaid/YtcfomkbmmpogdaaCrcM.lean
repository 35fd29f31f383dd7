/- CRC-32C as a linear map: one step, its powers, the rows of what becomes of each bit; a single bit turned. -/
import Derived.Test.YtcfomkbmmpogdaaCrc
set_option linter.unusedVariables false
namespace Go.Proofs.Ytcfomkbmmpogdaa

def poly : BitVec 32 := 0x82F63B78#32
theorem sh1_eq (x : BitVec 32) : sh1 x = (x >>> 1) ^^^ (if x.getLsbD 0 then poly else 0#32) := by
  unfold sh1 poly
  have h : (x &&& 1#32 = 1#32) ↔ x.getLsbD 0 = true := by
    constructor
    · intro h
      have := congrArg (fun y => BitVec.getLsbD y 0) h
      simpa using this
    · intro h
      apply BitVec.eq_of_getLsbD_eq
      intro i hi
      rw [BitVec.getLsbD_and]
      rcases i with _ | i
      · simp [h]
      · have : (1#32).getLsbD (i + 1) = false := by simp [BitVec.getLsbD_one]
        rw [this]; simp
  by_cases hx : x.getLsbD 0 = true
  · rw [if_pos (h.2 hx), if_pos hx]
  · rw [if_neg (fun h' => hx (h.1 h')), if_neg hx]; simp
theorem xor4 (a b c d : BitVec 32) : (a ^^^ b) ^^^ (c ^^^ d) = (a ^^^ c) ^^^ (b ^^^ d) := by
  apply BitVec.eq_of_getLsbD_eq; intro i hi
  simp only [BitVec.getLsbD_xor]
  cases a.getLsbD i <;> cases b.getLsbD i <;> cases c.getLsbD i <;> cases d.getLsbD i <;> rfl
theorem sh1_xor (x y : BitVec 32) : sh1 (x ^^^ y) = sh1 x ^^^ sh1 y := by
  rw [sh1_eq, sh1_eq, sh1_eq, xor4, BitVec.ushiftRight_xor_distrib, BitVec.getLsbD_xor]
  congr 1
  cases x.getLsbD 0 <;> cases y.getLsbD 0 <;> simp
theorem shN_xor (n : Nat) (x y : BitVec 32) : shN n (x ^^^ y) = shN n x ^^^ shN n y := by
  induction n with
  | zero => rfl
  | succ n ih => rw [shN, shN, shN, ih, sh1_xor]
theorem shN_add (m n : Nat) (x : BitVec 32) : shN (m + n) x = shN m (shN n x) := by
  induction m with
  | zero => simp [shN]
  | succ m ih => rw [Nat.succ_add, shN, shN, ih]
theorem shN_zero (n : Nat) : shN n 0#32 = 0#32 := by
  have h := shN_xor n 0#32 0#32
  simpa using h
theorem sh1_inj0 (x : BitVec 32) (h : sh1 x = 0#32) : x = 0#32 := by
  rw [sh1_eq] at h
  have h31 := congrArg (fun y => BitVec.getLsbD y 31) h
  by_cases hx : x.getLsbD 0 = true
  · rw [if_pos hx] at h31
    simp [poly] at h31
  · rw [if_neg hx] at h
    apply BitVec.eq_of_getLsbD_eq
    intro i hi
    rcases i with _ | i
    · simpa using hx
    · have := congrArg (fun y => BitVec.getLsbD y i) h
      simp at this
      rw [Nat.add_comm] at this
      simpa using this
theorem shN_inj0 (n : Nat) (x : BitVec 32) (h : shN n x = 0#32) : x = 0#32 := by
  induction n with
  | zero => exact h
  | succ n ih => exact ih (sh1_inj0 _ h)

/-- What becomes of each bit. -/
def matOf (e : Nat) : List (BitVec 32) := (List.range 32).map fun i => shN e (1#32 <<< i)
theorem matOf_length (e : Nat) : (matOf e).length = 32 := by simp [matOf]
theorem matOf_at (e i : Nat) (h : i < 32) : (matOf e).getD i 0#32 = shN e (1#32 <<< i) := by simp [matOf, List.getD, h]
def tmK (M : List (BitVec 32)) (v : BitVec 32) : Nat → BitVec 32
  | 0 => 0#32
  | k + 1 => if v.getLsbD k then tmK M v k ^^^ M.getD k 0#32 else tmK M v k
def low (v : BitVec 32) (k : Nat) : BitVec 32 := BitVec.ofNat 32 (v.toNat % 2 ^ k)
theorem low_bit (v : BitVec 32) (k i : Nat) : (low v k).getLsbD i = (decide (i < 32) && (decide (i < k) && v.getLsbD i)) := by
  unfold low
  rw [BitVec.getLsbD_ofNat, Nat.testBit_mod_two_pow, BitVec.testBit_toNat]
theorem low_succ (v : BitVec 32) (k : Nat) (hk : k < 32) : low v (k + 1) = if v.getLsbD k then low v k ^^^ (1#32 <<< k) else low v k := by
  apply BitVec.eq_of_getLsbD_eq
  intro i hi
  have e1 : (1#32 <<< k).getLsbD i = decide (i = k) := by
    rw [BitVec.getLsbD_shiftLeft, BitVec.getLsbD_one]
    by_cases h1 : i = k
    · subst h1; simp [hi]
    · rcases Nat.lt_or_ge i k with h2 | h2
      · simp [h2, h1]
      · have h3 : i - k ≠ 0 := by omega
        simp [h1, h3]
  by_cases hb : v.getLsbD k = true
  · rw [if_pos hb, BitVec.getLsbD_xor, low_bit, low_bit, e1]
    by_cases h1 : i = k
    · subst h1; simp [hb, hi]
    · rcases Nat.lt_or_ge i k with h2 | h2
      · simp [h1, h2, Nat.lt_succ_of_lt h2, hi]
      · have h3 : ¬ i < k + 1 := by omega
        have h4 : ¬ i < k := by omega
        simp [h1, h3, h4]
  · rw [if_neg hb, low_bit, low_bit]
    by_cases h1 : i = k
    · subst h1; simp [hb]
    · rcases Nat.lt_or_ge i k with h2 | h2
      · simp [h2, Nat.lt_succ_of_lt h2]
      · have h3 : ¬ i < k + 1 := by omega
        have h4 : ¬ i < k := by omega
        simp [h3, h4]
theorem tmK_mat (e : Nat) (v : BitVec 32) : ∀ k, k ≤ 32 → tmK (matOf e) v k = shN e (low v k)
  | 0, _ => by
    have : low v 0 = 0#32 := by unfold low; simp [Nat.mod_one]
    rw [tmK, this, shN_zero]
  | k + 1, hk => by
    rw [tmK, tmK_mat e v k (by omega), low_succ v k (by omega), matOf_at e k (by omega)]
    split
    · rw [shN_xor]
    · rfl
theorem low_all (v : BitVec 32) (k : Nat) (h : v >>> k = 0#32) : low v k = v := by
  have h1 : v.toNat / 2 ^ k = 0 := by
    have := congrArg BitVec.toNat h
    rw [BitVec.toNat_ushiftRight, Nat.shiftRight_eq_div_pow] at this
    simpa using this
  have h2 : v.toNat < 2 ^ k := by
    rcases Nat.div_eq_zero_iff.1 h1 with h3 | h3
    · exact absurd h3 (Nat.pos_iff_ne_zero.1 (Nat.two_pow_pos k))
    · exact h3
  unfold low
  rw [Nat.mod_eq_of_lt h2]; simp

/-- One bit of a text. -/
def flipB (l : List UInt8) (i : Nat) (x : UInt8) : List UInt8 := l.set i (l.getD i 0 ^^^ x)
theorem bv8_xor (a b : UInt8) : bv8 (a ^^^ b) = bv8 a ^^^ bv8 b := by
  unfold bv8
  rw [← BitVec.toNat_inj, BitVec.toNat_xor, BitVec.toNat_ofNat, BitVec.toNat_ofNat, BitVec.toNat_ofNat, UInt8.toNat_xor]
  have h1 := a.toNat_lt
  have h2 := b.toNat_lt
  have h3 : a.toNat ^^^ b.toNat < 2 ^ 8 := Nat.xor_lt_two_pow h1 h2
  rw [Nat.mod_eq_of_lt (by omega), Nat.mod_eq_of_lt (by omega), Nat.mod_eq_of_lt (by omega)]
theorem bv8_ne (x : UInt8) (h : x ≠ 0) : bv8 x ≠ 0#32 := by
  intro h1
  apply h
  have := congrArg BitVec.toNat h1
  unfold bv8 at this
  rw [BitVec.toNat_ofNat] at this
  have h2 := x.toNat_lt
  rw [Nat.mod_eq_of_lt (by omega)] at this
  exact UInt8.toNat_inj.1 (by simpa using this)
theorem shL_xor (l : List UInt8) : ∀ r d : BitVec 32, shL (r ^^^ d) l = shL r l ^^^ shN (8 * l.length) d := by
  induction l with
  | nil => intro r d; rfl
  | cons a t ih =>
    intro r d
    have e1 : shL (r ^^^ d) (a :: t) = shL (shB (r ^^^ d) a) t := rfl
    have e2 : shL r (a :: t) = shL (shB r a) t := rfl
    have e3 : shB (r ^^^ d) a = shB r a ^^^ shN 8 d := by
      unfold shB
      rw [← shN_xor]
      congr 1
      rw [BitVec.xor_assoc, BitVec.xor_assoc, BitVec.xor_comm d]
    rw [e1, e2, e3, ih, List.length_cons, Nat.mul_succ, shN_add]
theorem shL_flip (l : List UInt8) (x : UInt8) (hx : x ≠ 0) : ∀ (i : Nat) (r : BitVec 32), i < l.length → shL r (flipB l i x) ≠ shL r l := by
  induction l with
  | nil => intro i r h; simp at h
  | cons a t ih =>
    intro i r h
    rcases i with _ | i
    · have e1 : shL r (flipB (a :: t) 0 x) = shL (shB r (a ^^^ x)) t := rfl
      have e2 : shL r (a :: t) = shL (shB r a) t := rfl
      have e3 : shB r (a ^^^ x) = shB r a ^^^ shN 8 (bv8 x) := by
        unfold shB
        rw [bv8_xor, ← shN_xor, BitVec.xor_assoc]
      rw [e1, e2, e3, shL_xor]
      intro h1
      have h2 : shN (8 * t.length) (shN 8 (bv8 x)) = 0#32 := by
        have h3 := congrArg (fun y => shL (shB r a) t ^^^ y) h1
        simp only [← BitVec.xor_assoc, BitVec.xor_self, BitVec.zero_xor] at h3
        exact h3
      exact bv8_ne x hx (shN_inj0 _ _ (shN_inj0 _ _ h2))
    · have e1 : shL r (flipB (a :: t) (i + 1) x) = shL (shB r a) (flipB t i x) := by
        unfold flipB; simp [shL]
      have e2 : shL r (a :: t) = shL (shB r a) t := rfl
      rw [e1, e2]
      exact ih i _ (by simpa using h)
theorem crcMore_flip (s : BitVec 32) (l : List UInt8) (x : UInt8) (hx : x ≠ 0) (i : Nat) (h : i < l.length) : crcMore s (flipB l i x) ≠ crcMore s l := by
  unfold crcMore
  intro h1
  have h2 := congrArg bnot h1
  rw [bnot_bnot, bnot_bnot] at h2
  exact shL_flip l x hx i _ h h2

/-- The document's way to join: byte by byte. -/
theorem shB_zero (r : BitVec 32) : shB r 0 = shN 8 r := by unfold shB bv8; simp
def iterB (a : BitVec 32) (n : Nat) : BitVec 32 := shN (8 * n) a
theorem iterB_succ (a : BitVec 32) (n : Nat) : iterB a (n + 1) = shB (iterB a n) 0 := by
  rw [shB_zero]; unfold iterB; rw [Nat.mul_succ, Nat.add_comm, shN_add]
/-- A sum of two texts, joined. -/
theorem crc_join (a b : List UInt8) : crcSum (a ++ b) = iterB (crcSum a) b.length ^^^ crcSum b := by
  unfold crcSum crcMore iterB
  rw [shL_append]
  have e1 : ∀ x : BitVec 32, bnot x = x ^^^ BitVec.allOnes 32 := fun x => by unfold bnot; rw [BitVec.xor_allOnes]
  have h1 : shL (shL (bnot 0#32) a) b = shL (bnot 0#32) b ^^^ shN (8 * b.length) (bnot 0#32 ^^^ shL (bnot 0#32) a) := by
    rw [← shL_xor]
    congr 1
    rw [← BitVec.xor_assoc, BitVec.xor_self, BitVec.zero_xor]
  have e2 : bnot 0#32 = BitVec.allOnes 32 := by decide
  rw [h1, e1, e1 (shL (bnot 0#32) a), e1 (shL (bnot 0#32) b), e2, BitVec.xor_comm (BitVec.allOnes 32) (shL (BitVec.allOnes 32) a)]
  rw [BitVec.xor_assoc, BitVec.xor_comm, BitVec.xor_assoc, BitVec.xor_comm (BitVec.allOnes 32)]
end Go.Proofs.Ytcfomkbmmpogdaa
