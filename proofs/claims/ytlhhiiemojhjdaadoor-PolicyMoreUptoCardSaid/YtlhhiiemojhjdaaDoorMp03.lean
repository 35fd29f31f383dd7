/- Texts of this proof, laid into one: KaE, KaF, KaG. -/
import Derived.Test.YtlhhiiemojhjdaaDoorMp02
import Derived.Lib.ValidLaws
/- JSON, plain: characters and valid texts. -/
set_option linter.unusedVariables false
set_option linter.unusedSimpArgs false
namespace Go.Proofs.YtlhhiiemojhjdaaDoor
open Go Go.RowKit
def U2 (b0 b1 : Nat) : Prop := b0 / 32 = 6 ∧ b1 / 64 = 2 ∧ 128 ≤ b0 % 32 * 64 + b1 % 64
def U3 (b0 b1 b2 : Nat) : Prop := b0 / 16 = 14 ∧ b1 / 64 = 2 ∧ b2 / 64 = 2 ∧ 2048 ≤ b0 % 16 * 4096 + b1 % 64 * 64 + b2 % 64 ∧ (b0 % 16 * 4096 + b1 % 64 * 64 + b2 % 64 < 55296 ∨ 57344 ≤ b0 % 16 * 4096 + b1 % 64 * 64 + b2 % 64)
def U4 (b0 b1 b2 b3 : Nat) : Prop := b0 / 8 = 30 ∧ b1 / 64 = 2 ∧ b2 / 64 = 2 ∧ b3 / 64 = 2 ∧ 65536 ≤ b0 % 8 * 262144 + b1 % 64 * 4096 + b2 % 64 * 64 + b3 % 64 ∧ b0 % 8 * 262144 + b1 % 64 * 4096 + b2 % 64 * 64 + b3 % 64 ≤ 1114111
def UC (n b0 b1 b2 b3 k : Nat) : Prop := (k = 1 ∧ 0 < n ∧ b0 < 128) ∨ (k = 2 ∧ 1 < n ∧ U2 b0 b1) ∨ (k = 3 ∧ 2 < n ∧ U3 b0 b1 b2) ∨ (k = 4 ∧ 3 < n ∧ U4 b0 b1 b2 b3)
theorem uN_val {n b0 b1 b2 b3 : Nat} (h0 : n ≠ 0) {v w : Nat} (h : Lib.decodeN n b0 b1 b2 b3 = (v, w)) : uN n b0 b1 b2 b3 = if v = 65533 ∧ w = 1 then 0 else w := by
  unfold uN; rw [if_neg h0, h]
theorem uN_cases {n b0 b1 b2 b3 k : Nat} (h : uN n b0 b1 b2 b3 = k) (hk : k ≠ 0) : UC n b0 b1 b2 b3 k := by
  by_cases h0 : n = 0
  · unfold uN at h; rw [if_pos h0] at h; exact absurd h.symm hk
  have bad : Lib.decodeN n b0 b1 b2 b3 = (65533, 1) → UC n b0 b1 b2 b3 k := fun e => by
    rw [uN_val h0 e, if_pos ⟨rfl, rfl⟩] at h; exact absurd h.symm hk
  unfold Lib.decodeN at bad
  by_cases a : b0 < 128
  · have e : Lib.decodeN n b0 b1 b2 b3 = (b0, 1) := by unfold Lib.decodeN; rw [if_pos a]
    rw [uN_val h0 e, if_neg (by omega)] at h
    exact .inl ⟨h.symm, by omega, a⟩
  · rw [if_neg a] at bad
    by_cases a2 : b0 / 32 = 6 ∧ (1 < n ∧ b1 / 64 = 2)
    · rw [if_pos a2] at bad
      by_cases c : b0 % 32 * 64 + b1 % 64 ≥ 128
      · have e : Lib.decodeN n b0 b1 b2 b3 = (b0 % 32 * 64 + b1 % 64, 2) := by unfold Lib.decodeN; rw [if_neg a, if_pos a2, if_pos c]
        rw [uN_val h0 e, if_neg (by omega)] at h
        exact .inr (.inl ⟨h.symm, a2.2.1, a2.1, a2.2.2, c⟩)
      · rw [if_neg c] at bad; exact bad rfl
    · rw [if_neg a2] at bad
      by_cases a3 : b0 / 16 = 14 ∧ (1 < n ∧ b1 / 64 = 2) ∧ (2 < n ∧ b2 / 64 = 2)
      · rw [if_pos a3] at bad
        by_cases c : b0 % 16 * 4096 + b1 % 64 * 64 + b2 % 64 ≥ 2048 ∧ (b0 % 16 * 4096 + b1 % 64 * 64 + b2 % 64 < 55296 ∨ (57344 ≤ b0 % 16 * 4096 + b1 % 64 * 64 + b2 % 64 ∧ b0 % 16 * 4096 + b1 % 64 * 64 + b2 % 64 ≤ 1114111))
        · have e : Lib.decodeN n b0 b1 b2 b3 = (b0 % 16 * 4096 + b1 % 64 * 64 + b2 % 64, 3) := by unfold Lib.decodeN; rw [if_neg a, if_neg a2, if_pos a3, if_pos c]
          rw [uN_val h0 e, if_neg (by omega)] at h
          exact .inr (.inr (.inl ⟨h.symm, a3.2.2.1, a3.1, a3.2.1.2, a3.2.2.2, c.1, by omega⟩))
        · rw [if_neg c] at bad; exact bad rfl
      · rw [if_neg a3] at bad
        by_cases a4 : b0 / 8 = 30 ∧ (1 < n ∧ b1 / 64 = 2) ∧ (2 < n ∧ b2 / 64 = 2) ∧ (3 < n ∧ b3 / 64 = 2)
        · rw [if_pos a4] at bad
          by_cases c : b0 % 8 * 262144 + b1 % 64 * 4096 + b2 % 64 * 64 + b3 % 64 ≥ 65536 ∧ (b0 % 8 * 262144 + b1 % 64 * 4096 + b2 % 64 * 64 + b3 % 64 < 55296 ∨ (57344 ≤ b0 % 8 * 262144 + b1 % 64 * 4096 + b2 % 64 * 64 + b3 % 64 ∧ b0 % 8 * 262144 + b1 % 64 * 4096 + b2 % 64 * 64 + b3 % 64 ≤ 1114111))
          · have e : Lib.decodeN n b0 b1 b2 b3 = (b0 % 8 * 262144 + b1 % 64 * 4096 + b2 % 64 * 64 + b3 % 64, 4) := by unfold Lib.decodeN; rw [if_neg a, if_neg a2, if_neg a3, if_pos a4, if_pos c]
            rw [uN_val h0 e, if_neg (by omega)] at h
            exact .inr (.inr (.inr ⟨h.symm, a4.2.2.2.1, a4.1, a4.2.1.2, a4.2.2.1.2, a4.2.2.2.2, c.1, by omega⟩))
          · rw [if_neg c] at bad; exact bad rfl
        · rw [if_neg a4] at bad; exact bad rfl
theorem uN_of {n b0 b1 b2 b3 k : Nat} (h : UC n b0 b1 b2 b3 k) : uN n b0 b1 b2 b3 = k := by
  unfold UC U2 U3 U4 at h
  rcases h with h | h | h | h
  · have e : Lib.decodeN n b0 b1 b2 b3 = (b0, 1) := by unfold Lib.decodeN; rw [if_pos h.2.2]
    rw [uN_val (by omega) e, if_neg (by omega)]; exact h.1.symm
  · have e : Lib.decodeN n b0 b1 b2 b3 = (b0 % 32 * 64 + b1 % 64, 2) := by unfold Lib.decodeN; rw [if_neg (by omega), if_pos (by omega), if_pos (by omega)]
    rw [uN_val (by omega) e, if_neg (by omega)]; exact h.1.symm
  · have e : Lib.decodeN n b0 b1 b2 b3 = (b0 % 16 * 4096 + b1 % 64 * 64 + b2 % 64, 3) := by unfold Lib.decodeN; rw [if_neg (by omega), if_neg (by omega), if_pos (by omega), if_pos (by omega)]
    rw [uN_val (by omega) e, if_neg (by omega)]; exact h.1.symm
  · have e : Lib.decodeN n b0 b1 b2 b3 = (b0 % 8 * 262144 + b1 % 64 * 4096 + b2 % 64 * 64 + b3 % 64, 4) := by unfold Lib.decodeN; rw [if_neg (by omega), if_neg (by omega), if_neg (by omega), if_pos (by omega), if_pos (by omega)]
    rw [uN_val (by omega) e, if_neg (by omega)]; exact h.1.symm
theorem utf_cases {l : List UInt8} (h : utfN l ≠ 0) : UC l.length (gB l 0).toNat (gB l 1).toNat (gB l 2).toNat (gB l 3).toNat (utfN l) := uN_cases (utf_uN l).symm h
theorem utf_of {l : List UInt8} {k : Nat} (h : UC l.length (gB l 0).toNat (gB l 1).toNat (gB l 2).toNat (gB l 3).toNat k) : utfN l = k := by rw [utf_uN]; exact uN_of h
theorem gB_take {l : List UInt8} {k i : Nat} (h : i < k) : gB (l.take k) i = gB l i := by unfold gB; simp [List.getD, List.getElem?_take, h]
theorem utf_take {l : List UInt8} (h : utfN l ≠ 0) : utfN (l.take (utfN l)) = utfN l := by
  have hc := utf_cases h
  have hl := (utf_ext (x := []) h).2.1
  obtain ⟨k, hk⟩ : ∃ k, utfN l = k := ⟨_, rfl⟩
  rw [hk] at hc hl ⊢
  apply utf_of
  have hlen : (l.take k).length = k := by rw [List.length_take]; omega
  rw [hlen]
  unfold UC at hc ⊢
  rcases hc with ⟨h1, h2, h3⟩ | ⟨h1, h2, h3⟩ | ⟨h1, h2, h3⟩ | ⟨h1, h2, h3⟩ <;> subst h1
  · left; rw [gB_take (by omega)]; exact ⟨rfl, by omega, h3⟩
  · right; left; rw [gB_take (by omega), gB_take (by omega)]; exact ⟨rfl, by omega, h3⟩
  · right; right; left; rw [gB_take (by omega), gB_take (by omega), gB_take (by omega)]; exact ⟨rfl, by omega, h3⟩
  · right; right; right; rw [gB_take (by omega), gB_take (by omega), gB_take (by omega), gB_take (by omega)]; exact ⟨rfl, by omega, h3⟩
theorem valid_step {l : List UInt8} (hl : l ≠ []) : Lib.validD l = if utfN l = 0 then false else Lib.validD (l.drop (utfN l)) := by
  rw [Lib.validD_step l hl]
  unfold utfN
  rw [if_neg hl]
  by_cases h : (Lib.decodeL l).1 = 65533 ∧ (Lib.decodeL l).2 = 1
  · simp [h]
  · have hw := Lib.decodeL_width l
    rw [if_neg h, if_neg h, if_neg (by omega)]
theorem utf_nil : utfN [] = 0 := rfl
theorem utf_ne {l : List UInt8} (h : utfN l ≠ 0) : l ≠ [] := fun e => h (by rw [e]; rfl)
theorem valid_char {l : List UInt8} (h : utfN l ≠ 0) : Lib.validD (l.take (utfN l)) = true := by
  have hl := (utf_ext (x := []) h).2.1
  have e := utf_take h
  have hne : l.take (utfN l) ≠ [] := utf_ne (by rw [e]; exact h)
  rw [valid_step hne, e, if_neg h, List.drop_of_length_le (by rw [List.length_take]; omega)]
  rfl
theorem valid_app : ∀ (n : Nat) (a b : List UInt8), a.length ≤ n → Lib.validD a = true → Lib.validD b = true → Lib.validD (a ++ b) = true
  | n, [], b, _, _, hb => hb
  | 0, c :: t, b, hn, _, _ => absurd hn (by simp)
  | n + 1, c :: t, b, hn, ha, hb => by
    have hne : c :: t ≠ [] := by simp
    rw [valid_step hne] at ha
    split at ha
    · cases ha
    · next h0 =>
      obtain ⟨h1, h2, h3⟩ := utf_ext (x := b) h0
      have hne2 : (c :: t) ++ b ≠ [] := by simp
      rw [valid_step hne2, h1, if_neg h0, List.drop_append_of_le_length h2]
      exact valid_app n _ b (by rw [List.length_drop]; simp only [List.length_cons] at hn ⊢; omega) ha hb
theorem valid_ascii {b : UInt8} (h : b.toNat < 128) : Lib.validD [b] = true := by
  rw [valid_step (by simp), utf_ascii b [] h]; rfl
/-- A code point that is a character. -/
def Scalar (c : Nat) : Prop := c < 55296 ∨ (57343 < c ∧ c ≤ 1114111)
theorem enc_utf {c : Nat} (h : Scalar c) : utfN (Lib.encodeRune (c : Int)) = (Lib.encodeRune (c : Int)).length ∧ utfN (Lib.encodeRune (c : Int)) ≠ 0 := by
  unfold Scalar at h
  have tn : ∀ x : Int, 0 ≤ x → x < 256 → (x.toNat.toUInt8).toNat = x.toNat := fun x h0 h1 => by
    have : x.toNat < 256 := by omega
    simp [Nat.toUInt8, UInt8.toNat_ofNat']; omega
  have key : ∀ (l : List UInt8) (k : Nat), l.length = k → UC l.length (gB l 0).toNat (gB l 1).toNat (gB l 2).toNat (gB l 3).toNat k → utfN l = l.length ∧ utfN l ≠ 0 := fun l k hk hu => by
    have := utf_of hu
    refine ⟨by omega, ?_⟩
    unfold UC at hu; omega
  by_cases h1 : c ≤ 127
  · have e : Lib.encodeRune (c : Int) = [((c : Int)).toNat.toUInt8] := by unfold Lib.encodeRune; rw [Lib.encodeRuneZ_one (by omega) (by omega)]; rfl
    rw [e]
    refine key _ 1 rfl (.inl ⟨rfl, by simp, ?_⟩)
    show (((c : Int)).toNat.toUInt8).toNat < 128
    rw [tn _ (by omega) (by omega)]; omega
  · by_cases h2 : c ≤ 2047
    · have e : Lib.encodeRune (c : Int) = [(192 + (c : Int) / 64).toNat.toUInt8, (128 + (c : Int) % 64).toNat.toUInt8] := by unfold Lib.encodeRune; rw [Lib.encodeRuneZ_two (by omega) (by omega)]; rfl
      rw [e]
      refine key _ 2 rfl (.inr (.inl ⟨rfl, by simp, ?_⟩))
      show U2 ((192 + (c : Int) / 64).toNat.toUInt8).toNat ((128 + (c : Int) % 64).toNat.toUInt8).toNat
      rw [tn _ (by omega) (by omega), tn _ (by omega) (by omega)]
      unfold U2; omega
    · by_cases h3 : c ≤ 65535
      · have e : Lib.encodeRune (c : Int) = [(224 + (c : Int) / 4096).toNat.toUInt8, (128 + (c : Int) / 64 % 64).toNat.toUInt8, (128 + (c : Int) % 64).toNat.toUInt8] := by unfold Lib.encodeRune; rw [Lib.encodeRuneZ_three (by omega)]; rfl
        rw [e]
        refine key _ 3 rfl (.inr (.inr (.inl ⟨rfl, by simp, ?_⟩)))
        show U3 ((224 + (c : Int) / 4096).toNat.toUInt8).toNat ((128 + (c : Int) / 64 % 64).toNat.toUInt8).toNat ((128 + (c : Int) % 64).toNat.toUInt8).toNat
        rw [tn _ (by omega) (by omega), tn _ (by omega) (by omega), tn _ (by omega) (by omega)]
        unfold U3; omega
      · have e : Lib.encodeRune (c : Int) = [(240 + (c : Int) / 262144).toNat.toUInt8, (128 + (c : Int) / 4096 % 64).toNat.toUInt8, (128 + (c : Int) / 64 % 64).toNat.toUInt8, (128 + (c : Int) % 64).toNat.toUInt8] := by unfold Lib.encodeRune; rw [Lib.encodeRuneZ_four (by omega) (by omega)]; rfl
        rw [e]
        refine key _ 4 rfl (.inr (.inr (.inr ⟨rfl, by simp, ?_⟩)))
        show U4 ((240 + (c : Int) / 262144).toNat.toUInt8).toNat ((128 + (c : Int) / 4096 % 64).toNat.toUInt8).toNat ((128 + (c : Int) / 64 % 64).toNat.toUInt8).toNat ((128 + (c : Int) % 64).toNat.toUInt8).toNat
        rw [tn _ (by omega) (by omega), tn _ (by omega) (by omega), tn _ (by omega) (by omega), tn _ (by omega) (by omega)]
        unfold U4; omega
theorem valid_enc {c : Nat} (h : Scalar c) : Lib.validD (Lib.encodeRune (c : Int)) = true := by
  obtain ⟨h1, h2⟩ := enc_utf h
  have := valid_char h2
  rw [h1, List.take_length] at this
  exact this
end Go.Proofs.YtlhhiiemojhjdaaDoor
/- JSON, plain: right values; what is read is right. -/
set_option linter.unusedVariables false
set_option linter.unusedSimpArgs false
namespace Go.Proofs.YtlhhiiemojhjdaaDoor
open Go Go.RowKit
/-- Is a text a number? -/
def isNumL (t : List UInt8) : Bool := match numR t with
  | .ok _ [] => true
  | _ => false
mutual
/-- Is a value right, with so many lists and objects allowed one in another? -/
def wfJ : JsonD → Nat → Bool
  | .mk k t ns ks, d =>
    if k = 1 ∨ k = 2 ∨ k = 3 then t.isEmpty && ns.isEmpty && ks.isEmpty
    else if k = 4 then ns.isEmpty && ks.isEmpty
    else if k = 5 then ns.isEmpty && ks.isEmpty && Lib.validD t
    else if k = 6 then t.isEmpty && ns.isEmpty && decide (0 < d) && wfKs ks (d - 1)
    else if k = 7 then t.isEmpty && decide (ns.length = ks.length) && ns.all Lib.validD && decide (0 < d) && wfKs ks (d - 1)
    else false
def wfKs : List JsonD → Nat → Bool
  | [], _ => true
  | j :: r, d => wfJ j d && wfKs r d
end
mutual
/-- How many values it has. -/
def cntJ : JsonD → Nat
  | .mk _ _ _ ks => cntKs ks + 1
def cntKs : List JsonD → Nat
  | [] => 0
  | j :: r => cntJ j + cntKs r
end
mutual
/-- Are all its numbers numbers? -/
def numJ : JsonD → Bool
  | .mk k t _ ks => (decide (k ≠ 4) || isNumL t) && numKs ks
def numKs : List JsonD → Bool
  | [] => true
  | j :: r => numJ j && numKs r
end
theorem wfKs_app (a b : List JsonD) (d : Nat) : wfKs (a ++ b) d = (wfKs a d && wfKs b d) := by
  induction a with
  | nil => rfl
  | cons j r ih => rw [List.cons_append, wfKs, wfKs, ih, Bool.and_assoc]
theorem cntKs_app (a b : List JsonD) : cntKs (a ++ b) = cntKs a + cntKs b := by
  induction a with
  | nil => simp [cntKs]
  | cons j r ih => rw [List.cons_append, cntKs, cntKs, ih, Nat.add_assoc]
theorem numKs_app (a b : List JsonD) : numKs (a ++ b) = (numKs a && numKs b) := by
  induction a with
  | nil => rfl
  | cons j r ih => rw [List.cons_append, numKs, numKs, ih, Bool.and_assoc]
theorem bind_ok {α β : Type} {p : PR α} {k : α → List UInt8 → PR β} {w : β} {s : List UInt8} (h : p.bind k = .ok w s) : ∃ v r, p = .ok v r ∧ k v r = .ok w s := by
  cases p with
  | bad e n => cases h
  | ok v r => exact ⟨v, r, rfl, h⟩
theorem simple_ascii {b c : UInt8} (h : simpleE b = some c) : c.toNat < 128 := by
  unfold simpleE at h
  split at h
  · next h1 => injection h with h; subst h; rcases h1 with h1 | h1 | h1 <;> (subst h1; decide)
  · split at h
    · injection h with h; subst h; decide
    · split at h
      · injection h with h; subst h; decide
      · split at h
        · injection h with h; subst h; decide
        · split at h
          · injection h with h; subst h; decide
          · split at h
            · injection h with h; subst h; decide
            · cases h
theorem hex_lt {b : UInt8} {v : Nat} (h : hexJ b = some v) : v < 16 := by
  unfold hexJ at h
  split at h
  · injection h with h; omega
  · split at h
    · injection h with h; omega
    · split at h
      · injection h with h; omega
      · cases h
theorem fourR_lt (f : Nat) : ∀ (k n : Nat) (l : List UInt8) (c : Nat) (r : List UInt8), fourR f k n l = .ok c r → c < (n + 1) * 16 ^ k
  | 0, n, l, c, r, h => by cases h; simp
  | k + 1, n, [], c, r, h => by cases h
  | k + 1, n, b :: t, c, r, h => by
    rw [fourR] at h
    cases hv : hexJ b with
    | none => rw [hv] at h; cases h
    | some v =>
      rw [hv] at h
      have h1 := fourR_lt f k _ t c r h
      have h2 := hex_lt hv
      have h3 : (16 * n + v + 1) * 16 ^ k ≤ (16 * n + 16) * 16 ^ k := Nat.mul_le_mul_right _ (by omega)
      have h4 : (n + 1) * 16 ^ (k + 1) = (16 * n + 16) * 16 ^ k := by rw [Nat.pow_succ, Nat.mul_comm (16 ^ k) 16, ← Nat.mul_assoc]; congr 1; omega
      omega
theorem escR_valid {l c r : List UInt8} (h : escR l = .ok c r) : Lib.validD c = true := by
  match l, h with
  | [], h => cases h
  | [a], h => cases h
  | a :: b :: t, h =>
    rw [escR] at h
    split at h
    · obtain ⟨n, u, h1, h2⟩ := bind_ok h
      have hn := fourR_lt _ _ _ _ _ _ h1
      unfold codeR at h2
      split at h2
      · cases h2
      · next c1 =>
        split at h2
        · next c2 =>
          obtain ⟨m, t', h3, h4⟩ := bind_ok h2
          split at h4
          · next c3 =>
            have h5 := (PR.ok.inj h4).1
            rw [← h5]
            have h6 : Scalar (65536 + 1024 * (n - 55296) + (m - 56320)) := by unfold Scalar; omega
            exact valid_enc h6
          · cases h4
        · next c2 =>
          injection h2 with h2 _
          rw [← h2]
          exact valid_enc (by unfold Scalar; omega)
    · split at h
      · cases h
      · next cc hc =>
        injection h with h _
        rw [← h]
        exact valid_ascii (simple_ascii hc)
theorem txtR_valid : ∀ (n : Nat) (l acc s r : List UInt8), txtR n l acc = .ok s r → Lib.validD acc = true → Lib.validD s = true
  | 0, l, acc, s, r, h, _ => by cases h
  | n + 1, [], acc, s, r, h, _ => by cases h
  | n + 1, b :: t, acc, s, r, h, ha => by
    rw [txtR] at h
    split at h
    · injection h with h _; rw [← h]; exact ha
    · split at h
      · obtain ⟨c, u, h1, h2⟩ := bind_ok h
        exact txtR_valid n _ _ _ _ h2 (valid_app _ _ _ (Nat.le_refl _) ha (escR_valid h1))
      · split at h
        · cases h
        · next hc =>
          have hu : utfN (b :: t) ≠ 0 := fun e => hc (.inr e)
          exact txtR_valid n _ _ _ _ h (valid_app _ _ _ (Nat.le_refl _) ha (valid_char hu))
theorem textR_valid {l s r : List UInt8} (h : textR l = .ok s r) : Lib.validD s = true := by
  obtain ⟨_, t, _, h2⟩ := bind_ok h
  exact txtR_valid _ _ _ _ _ h2 rfl
/-- What a reading of values must be. -/
def OkV (d : Nat) (l : List UInt8) (v : JsonD) (r : List UInt8) : Prop := wfJ v d = true ∧ numJ v = true ∧ cntJ v + r.length ≤ l.length
def OkVs (d : Nat) (l : List UInt8) (vs : List JsonD) (r : List UInt8) : Prop := wfKs vs d = true ∧ numKs vs = true ∧ cntKs vs + r.length ≤ l.length
theorem itemsR_right {α : Type} {one : List UInt8 → PR α} (f : α → JsonD) (p : α → Prop) (d : Nat) (h1 : ∀ l v r, one l = .ok v r → OkV d l (f v) r ∧ p v) (c : UInt8) : ∀ (n : Nat) (l : List UInt8) (acc vs : List α) (r : List UInt8) (q : Nat),
    itemsR one c n l acc = .ok vs r → wfKs (acc.map f) d = true → numKs (acc.map f) = true → (∀ v ∈ acc, p v) → cntKs (acc.map f) + l.length ≤ q → wfKs (vs.map f) d = true ∧ numKs (vs.map f) = true ∧ cntKs (vs.map f) + r.length ≤ q ∧ ∀ v ∈ vs, p v
  | 0, l, acc, vs, r, q, h, _, _, _, _ => by cases h
  | n + 1, l, acc, vs, r, q, h, hw, hn, hp, hc => by
    rw [itemsR] at h
    obtain ⟨v, r1, h2, h3⟩ := bind_ok h
    obtain ⟨⟨k1, k2, k3⟩, k4⟩ := h1 _ _ _ h2
    have e1 : wfKs ((acc ++ [v]).map f) d = true := by rw [List.map_append, wfKs_app, hw]; simp [wfKs, k1]
    have e2 : numKs ((acc ++ [v]).map f) = true := by rw [List.map_append, numKs_app, hn]; simp [numKs, k2]
    have e3 : cntKs ((acc ++ [v]).map f) = cntKs (acc.map f) + cntJ (f v) := by rw [List.map_append, cntKs_app]; simp [cntKs]
    have e4 : ∀ w ∈ acc ++ [v], p w := fun w hw => by
      rcases List.mem_append.1 hw with h | h
      · exact hp w h
      · rw [List.mem_singleton.1 h]; exact k4
    have hsk := skip_len r1
    split at h3
    · injection h3 with h3 h4
      subst h3; subst h4
      refine ⟨e1, e2, ?_, e4⟩
      rw [e3, List.length_tail]; omega
    · obtain ⟨_, u, h5, h6⟩ := bind_ok h3
      have l1 := takeR_eats _ _ _ _ h5
      have l2 := skip_len u
      exact itemsR_right f p d h1 c n _ _ vs r q h6 e1 e2 e4 (by rw [e3]; omega)
theorem rowR_right {α : Type} {one : List UInt8 → PR α} (f : α → JsonD) (p : α → Prop) (d : Nat) (h1 : ∀ l v r, one l = .ok v r → OkV d l (f v) r ∧ p v) (c : UInt8) (l : List UInt8) (vs : List α) (r : List UInt8) (h : rowR one c l = .ok vs r) :
    wfKs (vs.map f) d = true ∧ numKs (vs.map f) = true ∧ cntKs (vs.map f) + r.length ≤ l.length ∧ ∀ v ∈ vs, p v := by
  unfold rowR at h
  have hsk := skip_len l
  split at h
  · injection h with h h'
    subst h; subst h'
    refine ⟨rfl, rfl, ?_, fun v hv => by cases hv⟩
    simp [cntKs]; omega
  · exact itemsR_right f p d h1 c _ _ _ vs r _ h rfl rfl (fun v hv => by cases hv) (by simp [cntKs]; omega)
theorem constR_right {w : List UInt8} {k : Int} {l r : List UInt8} {v : JsonD} (h : constR w k l = .ok v r) : v = .mk k [] [] [] := by
  obtain ⟨_, t, _, h2⟩ := bind_ok h
  injection h2 with h2 _
  exact h2.symm
/-! What stands behind, cut off. -/
def Cut {α : Type} (f : List UInt8 → PR α) : Prop := ∀ (y r s : List UInt8) (v : α), f (y ++ r) = .ok v (s ++ r) → f y = .ok v s
theorem drop_cut (y r s : List UInt8) (h : (y ++ r).dropWhile tenJ = s ++ r) : y.dropWhile tenJ = s := by
  rw [drop_while_app] at h
  by_cases h0 : y.dropWhile tenJ = []
  · rw [if_pos h0] at h
    have hl := (List.dropWhile_suffix (l := r) tenJ).length_le
    rw [h, List.length_append] at hl
    rw [h0, List.eq_nil_of_length_eq_zero (by omega : s.length = 0)]
  · rw [if_neg h0] at h
    exact List.append_cancel_right h
theorem digR_cut : Cut digR := by
  intro y r s v h
  by_cases hy : y = []
  · subst hy
    have := digR_eats _ _ _ h
    rw [List.length_append, List.nil_append] at this; omega
  · unfold digR at h ⊢
    rw [hd_app hy] at h
    split at h
    · next ht =>
      injection h with h1 h2
      rw [if_pos ht, drop_cut y r s h2]
    · cases h
theorem intR_cut : Cut intR := by
  intro y r s v h
  by_cases hy : y = []
  · subst hy
    have := intR_eats _ _ _ h
    rw [List.length_append, List.nil_append] at this; omega
  · unfold intR at h ⊢
    rw [hd_app hy, tail_app hy] at h
    split at h
    · next ht =>
      injection h with h1 h2
      rw [if_pos ht, List.append_cancel_right h2]
    · next ht => rw [if_neg ht]; exact digR_cut y r s v h
theorem fracR_cut : Cut fracR := by
  intro y r s v h
  by_cases hy : y = []
  · subst hy
    unfold fracR at h
    rw [List.nil_append] at h
    split at h
    · have h1 := digR_eats _ _ _ h
      rw [List.length_append, List.length_tail] at h1; omega
    · injection h with h1 h2
      have : s = [] := List.eq_nil_of_length_eq_zero (by have := congrArg List.length h2; rw [List.length_append] at this; omega)
      subst this
      rfl
  · unfold fracR at h ⊢
    rw [hd_app hy, tail_app hy] at h
    split at h
    · next ht => rw [if_pos ht]; exact digR_cut _ r s v h
    · next ht =>
      injection h with h1 h2
      rw [if_neg ht, List.append_cancel_right h2]
theorem expR_cut : Cut expR := by
  intro y r s v h
  by_cases hy : y = []
  · subst hy
    unfold expR at h
    rw [List.nil_append] at h
    split at h
    · have h1 := digR_eats _ _ _ h
      have h2 := (sign_suf r.tail).length_le
      rw [List.length_append] at h1
      rw [List.length_tail] at h2; omega
    · injection h with h1 h2
      have : s = [] := List.eq_nil_of_length_eq_zero (by have := congrArg List.length h2; rw [List.length_append] at this; omega)
      subst this
      rfl
  · unfold expR at h ⊢
    rw [hd_app hy, tail_app hy] at h
    split at h
    · next ht =>
      rw [if_pos ht]
      by_cases hz : y.tail = []
      · exfalso
        rw [hz, List.nil_append] at h
        have h1 := digR_eats _ _ _ h
        have h2 := (sign_suf r).length_le
        rw [List.length_append] at h1; omega
      · rw [sign_app hz] at h
        exact digR_cut _ r s v h
    · next ht =>
      injection h with h1 h2
      rw [if_neg ht, List.append_cancel_right h2]
theorem suf_split {s r l : List UInt8} (h : s ++ r <:+ l) : ∃ w, l = w ++ r := by
  obtain ⟨w, hw⟩ := h
  exact ⟨w ++ s, by rw [List.append_assoc]; exact hw.symm⟩
theorem numR_cut : Cut numR := by
  intro y r s v h
  by_cases hy : y = []
  · subst hy
    have := numR_eats _ _ _ h
    rw [List.length_append, List.nil_append] at this; omega
  · unfold numR at h ⊢
    rw [minus_app hy] at h
    obtain ⟨_, l2, h1, h2⟩ := bind_ok h
    obtain ⟨_, l3, h3, h4⟩ := bind_ok h2
    have g3 := expR_good l3
    rw [h4] at g3
    have g2 := fracR_good l2
    rw [h3] at g2
    obtain ⟨w3, rfl⟩ := suf_split g3
    obtain ⟨w2, rfl⟩ := suf_split (List.IsSuffix.trans g3 g2)
    rw [intR_cut _ _ _ _ h1]
    show ((fracR w2).bind fun _ l3 => expR l3) = _
    rw [fracR_cut _ _ _ _ h3]
    exact expR_cut _ _ _ _ h4
theorem isNum_take {l r : List UInt8} (h : numR l = .ok () r) : isNumL (l.take (l.length - r.length)) = true := by
  have hg := numR_good l
  rw [h] at hg
  obtain ⟨a, ha⟩ : r <:+ l := hg
  have hta : l.take (l.length - r.length) = a := by rw [← ha, List.length_append]; simp
  rw [hta]
  have h2 : numR (a ++ r) = .ok () ([] ++ r) := by rw [ha]; exact h
  unfold isNumL
  rw [numR_cut _ _ _ _ h2]
theorem atomR_right {d : Nat} {l r : List UInt8} {v : JsonD} (h : atomR l = .ok v r) : OkV d l v r := by
  have he := atomR_eats l v r h
  have simple : ∀ k t, v = .mk k t [] [] → (k = 1 ∨ k = 2 ∨ k = 3) ∧ t = [] ∨ k = 4 ∧ isNumL t = true ∨ k = 5 ∧ Lib.validD t = true → OkV d l v r := by
    intro k t e hk
    subst e
    refine ⟨?_, ?_, by simp [cntJ, cntKs]; omega⟩
    · rcases hk with ⟨h1, rfl⟩ | ⟨rfl, _⟩ | ⟨rfl, h2⟩
      · rw [wfJ, if_pos h1]; rfl
      · rfl
      · rw [wfJ, if_neg (by decide), if_neg (by decide), if_pos rfl, h2]; rfl
    · rcases hk with ⟨h1, rfl⟩ | ⟨rfl, h2⟩ | ⟨rfl, h2⟩
      · rw [numJ, numKs]; rcases h1 with h1 | h1 | h1 <;> (subst h1; rfl)
      · rw [numJ, numKs, h2]; rfl
      · rfl
  unfold atomR at h
  split at h
  · obtain ⟨s, t, h1, h2⟩ := bind_ok h
    injection h2 with h2 _
    exact simple 5 s h2.symm (.inr (.inr ⟨rfl, textR_valid h1⟩))
  · split at h
    · exact simple 1 [] (constR_right h) (.inl ⟨.inl rfl, rfl⟩)
    · split at h
      · exact simple 3 [] (constR_right h) (.inl ⟨.inr (.inr rfl), rfl⟩)
      · split at h
        · exact simple 2 [] (constR_right h) (.inl ⟨.inr (.inl rfl), rfl⟩)
        · split at h
          · obtain ⟨_, t, h1, h2⟩ := bind_ok h
            injection h2 with h2 _
            exact simple 4 _ h2.symm (.inr (.inl ⟨rfl, isNum_take h1⟩))
          · cases h
theorem pairR_right {one : List UInt8 → PR JsonD} {d : Nat} (h1 : ∀ l v r, one l = .ok v r → OkV d l v r) (l : List UInt8) (v : List UInt8 × JsonD) (r : List UInt8) (h : pairR one l = .ok v r) : OkV d l v.2 r ∧ Lib.validD v.1 = true := by
  obtain ⟨s, r1, h2, h3⟩ := bind_ok h
  obtain ⟨_, u, h4, h5⟩ := bind_ok h3
  obtain ⟨j, t, h6, h7⟩ := bind_ok h5
  injection h7 with h7 h8
  subst h7; subst h8
  obtain ⟨k1, k2, k3⟩ := h1 _ _ _ h6
  have l1 := textR_eats _ _ _ h2
  have l2 := skip_len r1
  have l3 := takeR_eats _ _ _ _ h4
  have l4 := skip_len u
  exact ⟨⟨k1, k2, by show cntJ j + t.length ≤ l.length; omega⟩, textR_valid h2⟩
theorem valR_right : ∀ (d : Nat) (l : List UInt8) (v : JsonD) (r : List UInt8), valR d l = .ok v r → OkV d l v r
  | 0, l, v, r, h => by
    unfold valR at h
    split at h
    · cases h
    · exact atomR_right h
  | d + 1, l, v, r, h => by
    unfold valR at h
    split at h
    · next hb =>
      obtain ⟨ks, t, h1, h2⟩ := bind_ok h
      injection h2 with h2 h3
      subst h2; subst h3
      obtain ⟨k1, k2, k3, _⟩ := rowR_right (fun j => j) (fun _ => True) d (fun l v r h => ⟨valR_right d l v r h, trivial⟩) 93 _ _ _ h1
      rw [List.map_id'] at k1 k2 k3
      have hl := tail_lt (l := l) (by rw [hb]; decide)
      refine ⟨?_, ?_, ?_⟩
      · rw [wfJ, if_neg (by decide), if_neg (by decide), if_neg (by decide), if_pos rfl, Nat.add_sub_cancel, k1]; simp
      · rw [numJ, k2]; rfl
      · rw [cntJ]; omega
    · split at h
      · next hb =>
        obtain ⟨ks, t, h1, h2⟩ := bind_ok h
        injection h2 with h2 h3
        subst h2; subst h3
        obtain ⟨k1, k2, k3, k4⟩ := rowR_right (fun j : List UInt8 × JsonD => j.2) (fun j => Lib.validD j.1 = true) d (fun l v r h => pairR_right (valR_right d) l v r h) 125 _ _ _ h1
        have hl := tail_lt (l := l) (by rw [hb]; decide)
        refine ⟨?_, ?_, ?_⟩
        · have e : (ks.map (·.1)).all Lib.validD = true := by
            rw [List.all_eq_true]
            intro x hx
            obtain ⟨p, hp, rfl⟩ := List.mem_map.1 hx
            exact k4 p hp
          rw [wfJ, if_neg (by decide), if_neg (by decide), if_neg (by decide), if_neg (by decide), if_pos rfl, Nat.add_sub_cancel, k1, e]; simp
        · rw [numJ, k2]; rfl
        · rw [cntJ]; omega
      · exact atomR_right h
/-- What is read is right. -/
theorem parse_right {s : List UInt8} {v : JsonD} (h : parseE s = .ok v) (hs : s.length ≤ 8000) : wfJ v 20 = true ∧ numJ v = true ∧ cntJ v ≤ 8000 := by
  unfold parseE at h
  cases hv : valR 20 (skipJ s) with
  | bad e n => rw [hv] at h; cases h
  | ok w t =>
    rw [hv] at h
    simp only at h
    split at h
    · cases h
      obtain ⟨h1, h2, h3⟩ := valR_right 20 _ _ _ hv
      have := skip_len s
      exact ⟨h1, h2, by omega⟩
    · cases h
end Go.Proofs.YtlhhiiemojhjdaaDoor
/- JSON, plain: what is written of a value is read as it. -/
set_option linter.unusedVariables false
set_option linter.unusedSimpArgs false
namespace Go.Proofs.YtlhhiiemojhjdaaDoor
open Go Go.RowKit
/-- A sixteenth's sign. -/
def hexD (n : Nat) : UInt8 := if n < 10 then (48 + n).toUInt8 else (87 + n).toUInt8
def escB (b : UInt8) : List UInt8 :=
  if b = 34 ∨ b = 92 then [92, b]
  else if b = 10 then [92, 110]
  else if b = 13 then [92, 114]
  else if b = 9 then [92, 116]
  else if b.toNat < 32 then [92, 117, 48, 48, hexD (b.toNat / 16), hexD (b.toNat % 16)]
  else [b]
def escL (s : List UInt8) : List UInt8 := s.flatMap escB
def quoteJ (s : List UInt8) : List UInt8 := 34 :: (escL s ++ [34])
def commaJ (first : Bool) : List UInt8 := if first then [] else [44]
mutual
/-- A right value's text. -/
def writeJ : JsonD → List UInt8
  | .mk k t ns ks =>
    if k = 1 then [110, 117, 108, 108]
    else if k = 2 then [102, 97, 108, 115, 101]
    else if k = 3 then [116, 114, 117, 101]
    else if k = 4 then t
    else if k = 5 then quoteJ t
    else if k = 7 then 123 :: (writePs ks ns true ++ [125])
    else 91 :: (writeKs ks true ++ [93])
def writeKs : List JsonD → Bool → List UInt8
  | [], _ => []
  | j :: r, first => commaJ first ++ (writeJ j ++ writeKs r false)
def writePs : List JsonD → List (List UInt8) → Bool → List UInt8
  | [], _, _ => []
  | j :: r, ns, first => commaJ first ++ (quoteJ (ns.headD []) ++ 58 :: (writeJ j ++ writePs r ns.tail false))
end
theorem escL_app (a b : List UInt8) : escL (a ++ b) = escL a ++ escL b := by simp [escL]
theorem escL_cons (b : UInt8) (t : List UInt8) : escL (b :: t) = escB b ++ escL t := by simp [escL]
theorem esc_high {b : UInt8} (h : 128 ≤ b.toNat) : escB b = [b] := by
  unfold escB
  have : ∀ c : UInt8, c.toNat < 128 → b ≠ c := fun c hc e => by subst e; omega
  rw [if_neg (fun h => h.elim (this 34 (by decide)) (this 92 (by decide))), if_neg (this 10 (by decide)), if_neg (this 13 (by decide)), if_neg (this 9 (by decide)), if_neg (by omega)]
theorem escL_high (c : List UInt8) (h : ∀ b ∈ c, 128 ≤ b.toNat) : escL c = c := by
  induction c with
  | nil => rfl
  | cons b t ih => rw [escL_cons, esc_high (h b (by simp)), ih (fun x hx => h x (by simp [hx]))]; rfl
theorem hex_back : ∀ n : Fin 16, hexJ (hexD n.val) = some n.val := by decide
theorem hex_back' {n : Nat} (h : n < 16) : hexJ (hexD n) = some n := hex_back ⟨n, h⟩
theorem enc_ascii {b : UInt8} (h : b.toNat < 128) : Lib.encodeRune ((b.toNat : Nat) : Int) = [b] := by
  unfold Lib.encodeRune
  rw [Lib.encodeRuneZ_one (by omega) (by omega)]
  simp
theorem gB_mem {l : List UInt8} {i : Nat} (h : i < l.length) : gB l i ∈ l := by unfold gB; simp [List.getD, h]
/-- A character that is no ASCII has no ASCII bytes. -/
theorem char_high {l : List UInt8} (h : utfN l ≠ 0) (hb : 128 ≤ (gB l 0).toNat) : ∀ b ∈ l.take (utfN l), 128 ≤ b.toNat := by
  have hc := utf_cases h
  have hl := (utf_ext (x := []) h).2.1
  obtain ⟨k, hk⟩ : ∃ k, utfN l = k := ⟨_, rfl⟩
  rw [hk] at hc hl ⊢
  intro b hbm
  obtain ⟨i, hi, rfl⟩ := List.mem_iff_getElem.1 hbm
  have hi' : i < k := by rw [List.length_take] at hi; omega
  have e : (l.take k)[i] = gB l i := by rw [List.getElem_take]; unfold gB; simp [List.getD, show i < l.length by omega]
  rw [e]
  unfold UC U2 U3 U4 at hc
  rcases hc with hc | hc | hc | hc
  · have : i = 0 := by omega
    subst this; exact hb
  · have : i = 0 ∨ i = 1 := by omega
    rcases this with rfl | rfl
    · exact hb
    · omega
  · have : i = 0 ∨ i = 1 ∨ i = 2 := by omega
    rcases this with rfl | rfl | rfl
    · exact hb
    · omega
    · omega
  · have : i = 0 ∨ i = 1 ∨ i = 2 ∨ i = 3 := by omega
    rcases this with rfl | rfl | rfl | rfl
    · exact hb
    · omega
    · omega
    · omega
theorem txtR_esc : ∀ (m : Nat) (s : List UInt8), s.length ≤ m → Lib.validD s = true → ∀ (n : Nat) (y acc : List UInt8), (escL s ++ 34 :: y).length < n → txtR n (escL s ++ 34 :: y) acc = .ok (acc ++ s) y
  | m, [], _, _, 0, y, acc, hn => absurd hn (by omega)
  | m, [], _, _, n + 1, y, acc, hn => by
    show txtR (n + 1) (34 :: y) acc = _
    rw [txtR, if_pos rfl, List.append_nil]
  | 0, b :: t, hm, _, n, y, acc, hn => absurd hm (by simp)
  | m + 1, b :: t, hm, hv, 0, y, acc, hn => absurd hn (by omega)
  | m + 1, b :: t, hm, hv, n + 1, y, acc, hn => by
    simp only [List.length_cons] at hm
    rw [valid_step (by simp)] at hv
    by_cases hu : utfN (b :: t) = 0
    · rw [if_pos hu] at hv; cases hv
    rw [if_neg hu] at hv
    by_cases hb : b.toNat < 128
    · rw [utf_ascii b t hb] at hv
      have hvt : Lib.validD t = true := hv
      have ih := txtR_esc m t (by omega) hvt
      rw [escL_cons] at hn ⊢
      have fin : acc ++ [b] ++ t = acc ++ b :: t := by simp
      rw [← fin]
      unfold escB at hn ⊢
      by_cases h1 : b = 34 ∨ b = 92
      · rw [if_pos h1] at hn ⊢
        have hs : simpleE b = some b := by rcases h1 with h | h <;> (subst h; rfl)
        have hb7 : b ≠ 117 := by rcases h1 with h | h <;> (subst h; decide)
        show txtR (n + 1) (92 :: b :: (escL t ++ 34 :: y)) acc = _
        rw [txtR, if_neg (by decide), if_pos rfl, escR, if_neg hb7, hs]
        exact ih n y _ (by simp at hn ⊢; omega)
      rw [if_neg h1] at hn ⊢
      by_cases h2 : b = 10
      · subst h2
        rw [if_pos rfl] at hn ⊢
        show txtR (n + 1) (92 :: 110 :: (escL t ++ 34 :: y)) acc = _
        rw [txtR, if_neg (by decide), if_pos rfl, escR, if_neg (by decide)]
        exact ih n y _ (by simp at hn ⊢; omega)
      rw [if_neg h2] at hn ⊢
      by_cases h3 : b = 13
      · subst h3
        rw [if_pos rfl] at hn ⊢
        show txtR (n + 1) (92 :: 114 :: (escL t ++ 34 :: y)) acc = _
        rw [txtR, if_neg (by decide), if_pos rfl, escR, if_neg (by decide)]
        exact ih n y _ (by simp at hn ⊢; omega)
      rw [if_neg h3] at hn ⊢
      by_cases h4 : b = 9
      · subst h4
        rw [if_pos rfl] at hn ⊢
        show txtR (n + 1) (92 :: 116 :: (escL t ++ 34 :: y)) acc = _
        rw [txtR, if_neg (by decide), if_pos rfl, escR, if_neg (by decide)]
        exact ih n y _ (by simp at hn ⊢; omega)
      rw [if_neg h4] at hn ⊢
      by_cases h5 : b.toNat < 32
      · rw [if_pos h5] at hn ⊢
        show txtR (n + 1) (92 :: 117 :: 48 :: 48 :: hexD (b.toNat / 16) :: hexD (b.toNat % 16) :: (escL t ++ 34 :: y)) acc = _
        rw [txtR, if_neg (by decide), if_pos rfl, escR, if_pos rfl]
        have e0 : hexJ 48 = some 0 := rfl
        obtain ⟨f, hf⟩ : ∃ f, (92 :: 117 :: 48 :: 48 :: hexD (b.toNat / 16) :: hexD (b.toNat % 16) :: (escL t ++ 34 :: y)).length = f := ⟨_, rfl⟩
        rw [hf, fourR, e0]
        simp only
        rw [fourR, e0]
        simp only
        rw [fourR, hex_back' (by omega)]
        simp only
        rw [fourR, hex_back' (by omega)]
        simp only
        rw [fourR]
        have e1 : 16 * (16 * (16 * (16 * 0 + 0) + 0) + b.toNat / 16) + b.toNat % 16 = b.toNat := by omega
        rw [e1]
        show ((codeR f b.toNat (escL t ++ 34 :: y)).bind fun c u => txtR n u (acc ++ c)) = _
        unfold codeR
        rw [if_neg (by omega), if_neg (by omega), enc_ascii hb]
        exact ih n y _ (by simp at hn ⊢; omega)
      · rw [if_neg h5] at hn ⊢
        show txtR (n + 1) (b :: (escL t ++ 34 :: y)) acc = _
        have h34 : b ≠ 34 := fun e => h1 (.inl e)
        have h92 : b ≠ 92 := fun e => h1 (.inr e)
        rw [txtR, if_neg h34, if_neg h92, utf_ascii b _ hb, if_neg (by omega)]
        exact ih n y _ (by simp at hn ⊢; omega)
    · have hch := char_high hu (by show 128 ≤ b.toNat; omega)
      obtain ⟨h2, h3, h4⟩ := utf_ext (x := []) hu
      obtain ⟨k, hk⟩ : ∃ k, utfN (b :: t) = k := ⟨_, rfl⟩
      have htk := utf_take hu
      rw [hk] at hv hch h3 htk
      have hk1 : 1 ≤ k := by rw [hk] at hu; omega
      obtain ⟨c, hc⟩ : ∃ c, (b :: t).take k = c := ⟨_, rfl⟩
      obtain ⟨s', hs'⟩ : ∃ s', (b :: t).drop k = s' := ⟨_, rfl⟩
      have hsplit : b :: t = c ++ s' := by rw [← hc, ← hs', List.take_append_drop]
      rw [hc] at hch htk
      rw [hs'] at hv
      have hcl : c.length = k := by rw [← hc, List.length_take]; omega
      have hsl : s'.length + k = (b :: t).length := by rw [hsplit, List.length_append]; omega
      simp only [List.length_cons] at hsl
      have ih := txtR_esc m s' (by omega) hv
      have e1 : escL (b :: t) ++ 34 :: y = c ++ (escL s' ++ 34 :: y) := by rw [hsplit, escL_app, escL_high c hch, List.append_assoc]
      rw [e1] at hn ⊢
      have hck : utfN c ≠ 0 := by rw [htk]; omega
      have hu2 := (utf_ext (x := escL s' ++ 34 :: y) hck).1
      rw [htk] at hu2
      obtain ⟨b', c', hbc⟩ : ∃ b' c', c = b' :: c' := by
        cases c with
        | nil => simp at hcl; omega
        | cons b' c' => exact ⟨b', c', rfl⟩
      have hbb : 128 ≤ b'.toNat := hch b' (by rw [hbc]; simp)
      have ne : ∀ d : UInt8, d.toNat < 128 → b' ≠ d := fun d hd e => by subst e; omega
      have e2 : txtR (n + 1) (c ++ (escL s' ++ 34 :: y)) acc = txtR n ((c ++ (escL s' ++ 34 :: y)).drop k) (acc ++ (c ++ (escL s' ++ 34 :: y)).take k) := by
        rw [hbc] at hu2 ⊢
        rw [List.cons_append] at hu2 ⊢
        rw [txtR, if_neg (ne 34 (by decide)), if_neg (ne 92 (by decide)), hu2, if_neg (by omega)]
      rw [e2, List.drop_append_of_le_length (by omega), List.take_append_of_le_length (by omega), List.drop_of_length_le (by omega), List.take_of_length_le (by omega), List.nil_append]
      rw [ih n y _ (by rw [List.length_append] at hn; omega), hsplit, List.append_assoc]
theorem textR_quote {s : List UInt8} (hv : Lib.validD s = true) (y : List UInt8) : textR (quoteJ s ++ y) = .ok s y := by
  have e : quoteJ s ++ y = 34 :: (escL s ++ 34 :: y) := by unfold quoteJ; simp
  rw [e]
  show txtR ((escL s ++ 34 :: y).length + 1) (escL s ++ 34 :: y) [] = _
  rw [txtR_esc _ s (Nat.le_refl _) hv _ _ _ (by omega)]; rfl
theorem num_hd {t : List UInt8} (h : isNumL t = true) : hdB t = 45 ∨ tenJ (hdB t) = true := by
  by_cases h1 : hdB t = 45
  · exact .inl h1
  · right
    unfold isNumL numR at h
    have e : minusR t = t := by unfold minusR; rw [if_neg h1]
    rw [e] at h
    by_cases h2 : hdB t = 48
    · rw [h2]; rfl
    · by_cases h3 : tenJ (hdB t) = true
      · exact h3
      · have : intR t = .bad 54 t.length := by
          unfold intR digR
          rw [if_neg h2, if_neg h3]
        rw [this] at h
        cases h
theorem num_ne {t : List UInt8} (h : isNumL t = true) : t ≠ [] := by
  intro e; subst e
  rcases num_hd h with h | h <;> exact absurd h (by decide)
theorem isNum_ok {t : List UInt8} (h : isNumL t = true) : numR t = .ok () [] := by
  unfold isNumL at h
  split at h
  · next e => exact e
  · cases h
/-- What begins a value. -/
def headJ (b : UInt8) : Prop := b = 110 ∨ b = 102 ∨ b = 116 ∨ b = 34 ∨ b = 123 ∨ b = 91 ∨ b = 45 ∨ tenJ b = true
theorem headJ_ne {b : UInt8} (h : headJ b) : wsB b = false ∧ b ≠ 93 ∧ b ≠ 125 ∧ b ≠ 0 := by
  unfold headJ at h
  have ht : ∀ b : UInt8, tenJ b = true → wsB b = false ∧ b ≠ 93 ∧ b ≠ 125 ∧ b ≠ 0 := by
    intro b h
    unfold tenJ at h
    simp only [Bool.and_eq_true, decide_eq_true_eq] at h
    refine ⟨?_, ?_, ?_, ?_⟩
    · cases hw : wsB b with
      | false => rfl
      | true => rcases ws_cases hw with e | e | e | e <;> (subst e; revert h; decide)
    · intro e; subst e; revert h; decide
    · intro e; subst e; revert h; decide
    · intro e; subst e; revert h; decide
  rcases h with h | h | h | h | h | h | h | h
  · subst h; decide
  · subst h; decide
  · subst h; decide
  · subst h; decide
  · subst h; decide
  · subst h; decide
  · subst h; decide
  · exact ht b h
theorem write_head {j : JsonD} (h : numJ j = true) : writeJ j ≠ [] ∧ headJ (hdB (writeJ j)) := by
  obtain ⟨k, t, ns, ks⟩ := j
  rw [writeJ]
  by_cases h1 : k = 1
  · rw [if_pos h1]; exact ⟨by simp, .inl rfl⟩
  rw [if_neg h1]
  by_cases h2 : k = 2
  · rw [if_pos h2]; exact ⟨by simp, .inr (.inl rfl)⟩
  rw [if_neg h2]
  by_cases h3 : k = 3
  · rw [if_pos h3]; exact ⟨by simp, .inr (.inr (.inl rfl))⟩
  rw [if_neg h3]
  by_cases h4 : k = 4
  · rw [if_pos h4]
    have hn : isNumL t = true := by
      rw [numJ] at h
      simp only [Bool.and_eq_true, Bool.or_eq_true, decide_eq_true_eq] at h
      exact h.1.resolve_left (fun e => e h4)
    refine ⟨num_ne hn, ?_⟩
    rcases num_hd hn with e | e
    · exact .inr (.inr (.inr (.inr (.inr (.inr (.inl e))))))
    · exact .inr (.inr (.inr (.inr (.inr (.inr (.inr e))))))
  rw [if_neg h4]
  by_cases h5 : k = 5
  · rw [if_pos h5]; exact ⟨by simp [quoteJ], .inr (.inr (.inr (.inl rfl)))⟩
  rw [if_neg h5]
  by_cases h7 : k = 7
  · rw [if_pos h7]; exact ⟨by simp, .inr (.inr (.inr (.inr (.inl rfl))))⟩
  · rw [if_neg h7]; exact ⟨by simp, .inr (.inr (.inr (.inr (.inr (.inl rfl)))))⟩
theorem skip_head {l : List UInt8} (h : wsB (hdB l) = false) : skipJ l = l := by
  cases l with
  | nil => rfl
  | cons b t => exact List.dropWhile_cons_of_neg (by rw [show hdB (b :: t) = b from rfl] at h; rw [h]; decide)
theorem stop_c {b : UInt8} (x : List UInt8) (h : stopB b = true) : stopX (b :: x) := h
theorem comma_step {α : Type} {one : List UInt8 → PR α} {c : UInt8} (hc : ¬ (44 : UInt8) = c) (n : Nat) (v : α) (r : List UInt8) (acc : List α) :
    ((PR.ok v (44 :: r)).bind fun v r => if hdB (skipJ r) = c then PR.ok (acc ++ [v]) (skipJ r).tail else (takeR 44 (skipJ r)).bind fun _ u => itemsR one c n (skipJ u) (acc ++ [v])) = itemsR one c n (skipJ r) (acc ++ [v]) := by
  have e : skipJ (44 :: r) = 44 :: r := rfl
  have e2 : hdB (44 :: r) = 44 := rfl
  simp only [PR.bind, e, e2]
  rw [if_neg hc]
  rfl
theorem items_write (d : Nat) : ∀ (ks : List JsonD) (j : JsonD), (∀ v ∈ j :: ks, ∀ x, stopX x → valR d (writeJ v ++ x) = .ok v x) → (∀ v ∈ j :: ks, numJ v = true) → ∀ (n : Nat) (x : List UInt8) (acc : List JsonD),
    (writeJ j ++ (writeKs ks false ++ 93 :: x)).length < n → itemsR (valR d) 93 n (writeJ j ++ (writeKs ks false ++ 93 :: x)) acc = .ok (acc ++ j :: ks) x
  | ks, j, hv, hn, 0, x, acc, hl => absurd hl (by omega)
  | [], j, hv, hn, n + 1, x, acc, hl => by
    rw [itemsR]
    have e : writeKs [] false ++ 93 :: x = 93 :: x := rfl
    rw [e, hv j (by simp) _ (stop_c x (b := 93) rfl)]
    rfl
  | k :: ks, j, hv, hn, n + 1, x, acc, hl => by
    rw [itemsR]
    have e : writeKs (k :: ks) false ++ 93 :: x = 44 :: (writeJ k ++ (writeKs ks false ++ 93 :: x)) := by simp [writeKs, commaJ]
    rw [e] at hl ⊢
    rw [hv j (by simp) _ (stop_c _ (b := 44) rfl)]
    obtain ⟨h1, h2⟩ := write_head (hn k (by simp))
    have h3 := headJ_ne h2
    rw [comma_step (by decide), skip_head (by rw [hd_app h1]; exact h3.1)]
    rw [items_write d ks k (fun v hm => hv v (by simp at hm ⊢; exact .inr hm)) (fun v hm => hn v (by simp at hm ⊢; exact .inr hm)) n x _ (by
      simp only [List.length_append, List.length_cons] at hl ⊢; omega)]
    simp
theorem pairs_write (d : Nat) : ∀ (ks : List JsonD) (ns : List (List UInt8)) (j : JsonD) (m : List UInt8), (∀ v ∈ j :: ks, ∀ x, stopX x → valR d (writeJ v ++ x) = .ok v x) → (∀ v ∈ j :: ks, numJ v = true) → (∀ s ∈ m :: ns, Lib.validD s = true) → ns.length = ks.length → ∀ (n : Nat) (x : List UInt8) (acc : List (List UInt8 × JsonD)),
    (quoteJ m ++ 58 :: (writeJ j ++ (writePs ks ns false ++ 125 :: x))).length < n → itemsR (pairR (valR d)) 125 n (quoteJ m ++ 58 :: (writeJ j ++ (writePs ks ns false ++ 125 :: x))) acc = .ok (acc ++ (m, j) :: ns.zip ks) x
  | ks, ns, j, m, hv, hn, hm, hk, 0, x, acc, hl => absurd hl (by omega)
  | ks, ns, j, m, hv, hn, hm, hk, n + 1, x, acc, hl => by
    rw [itemsR]
    obtain ⟨h1, h2⟩ := write_head (hn j (by simp))
    have h3 := headJ_ne h2
    have ep : ∀ y, stopX y → pairR (valR d) (quoteJ m ++ 58 :: (writeJ j ++ y)) = .ok (m, j) y := by
      intro y hy
      unfold pairR
      rw [textR_quote (hm m (by simp))]
      show ((valR d (skipJ (writeJ j ++ y))).bind fun v t => PR.ok (m, v) t) = _
      rw [skip_head (by rw [hd_app h1]; exact h3.1), hv j (by simp) y hy]
      rfl
    cases ks with
    | nil =>
      have hns : ns = [] := List.eq_nil_of_length_eq_zero hk
      subst hns
      have e : writePs [] [] false ++ 125 :: x = 125 :: x := rfl
      rw [e, ep _ (stop_c x (b := 125) rfl)]
      rfl
    | cons k ks =>
      cases ns with
      | nil => cases hk
      | cons m' ns =>
        have e : writePs (k :: ks) (m' :: ns) false ++ 125 :: x = 44 :: (quoteJ m' ++ 58 :: (writeJ k ++ (writePs ks ns false ++ 125 :: x))) := by simp [writePs, commaJ]
        rw [e] at hl ⊢
        rw [ep _ (stop_c _ (b := 44) rfl)]
        rw [comma_step (by decide), skip_head (l := quoteJ m' ++ 58 :: (writeJ k ++ (writePs ks ns false ++ 125 :: x))) rfl]
        rw [pairs_write d ks ns k m' (fun v hm => hv v (by simp at hm ⊢; exact .inr hm)) (fun v hm => hn v (by simp at hm ⊢; exact .inr hm)) (fun s hs => hm s (by simp at hs ⊢; exact .inr hs)) (by simpa using hk) n x _ (by
          simp only [List.length_append, List.length_cons] at hl ⊢; omega)]
        simp
theorem wfKs_mem {ks : List JsonD} {d : Nat} (h : wfKs ks d = true) : ∀ v ∈ ks, wfJ v d = true := by
  induction ks with
  | nil => intro v hv; cases hv
  | cons j r ih =>
    rw [wfKs, Bool.and_eq_true] at h
    intro v hv
    rcases List.mem_cons.1 hv with e | e
    · rw [e]; exact h.1
    · exact ih h.2 v e
theorem numKs_mem {ks : List JsonD} (h : numKs ks = true) : ∀ v ∈ ks, numJ v = true := by
  induction ks with
  | nil => intro v hv; cases hv
  | cons j r ih =>
    rw [numKs, Bool.and_eq_true] at h
    intro v hv
    rcases List.mem_cons.1 hv with e | e
    · rw [e]; exact h.1
    · exact ih h.2 v e
theorem const_write (w x : List UInt8) (k : Int) : constR w k (w ++ x) = .ok (.mk k [] [] []) x := by
  have e : ∀ w x : List UInt8, wordR w (w ++ x) = .ok () x := by
    intro w x
    induction w with
    | nil => rfl
    | cons b w ih =>
      show (takeR b (b :: (w ++ x))).bind _ = _
      rw [takeR, if_pos rfl]; exact ih
  unfold constR
  rw [e]; rfl
theorem val_atom (d : Nat) {l : List UInt8} (h1 : hdB l ≠ 91) (h2 : hdB l ≠ 123) : valR d l = atomR l := by
  cases d with
  | zero => unfold valR; rw [if_neg (fun h => h.elim h1 h2)]
  | succ d => unfold valR; rw [if_neg h1, if_neg h2]
theorem write_read : ∀ (d : Nat) (j : JsonD), wfJ j d = true → numJ j = true → ∀ x, stopX x → valR d (writeJ j ++ x) = .ok j x
  | d, .mk k t ns ks, hw, hn, x, hx => by
    rw [wfJ] at hw
    rw [writeJ]
    by_cases h123 : k = 1 ∨ k = 2 ∨ k = 3
    · rw [if_pos h123] at hw
      simp only [Bool.and_eq_true, List.isEmpty_iff] at hw
      obtain ⟨⟨rfl, rfl⟩, rfl⟩ := hw
      rcases h123 with h | h | h
      · subst h
        rw [if_pos rfl, val_atom d (by show (110 : UInt8) ≠ 91; decide) (by show (110 : UInt8) ≠ 123; decide)]
        exact const_write [110, 117, 108, 108] x 1
      · subst h
        rw [if_neg (by decide), if_pos rfl, val_atom d (by show (102 : UInt8) ≠ 91; decide) (by show (102 : UInt8) ≠ 123; decide)]
        exact const_write [102, 97, 108, 115, 101] x 2
      · subst h
        rw [if_neg (by decide), if_neg (by decide), if_pos rfl, val_atom d (by show (116 : UInt8) ≠ 91; decide) (by show (116 : UInt8) ≠ 123; decide)]
        exact const_write [116, 114, 117, 101] x 3
    rw [if_neg h123] at hw
    rw [if_neg (fun e => h123 (.inl e)), if_neg (fun e => h123 (.inr (.inl e))), if_neg (fun e => h123 (.inr (.inr e)))]
    by_cases h4 : k = 4
    · subst h4
      rw [if_pos rfl] at hw ⊢
      simp only [Bool.and_eq_true, List.isEmpty_iff] at hw
      obtain ⟨rfl, rfl⟩ := hw
      have hnt : isNumL t = true := by
        rw [numJ] at hn
        simpa [numKs] using hn
      have hne := num_ne hnt
      have hh := num_hd hnt
      have nx : ∀ b : UInt8, b ≠ 45 → tenJ b = false → hdB t ≠ b := fun b h1 h2 e => by
        rcases hh with h | h
        · exact h1 (e.symm.trans h)
        · rw [e, h2] at h; cases h
      rw [val_atom d (by rw [hd_app hne]; exact nx 91 (by decide) (by decide)) (by rw [hd_app hne]; exact nx 123 (by decide) (by decide))]
      unfold atomR
      rw [hd_app hne, if_neg (nx 34 (by decide) (by decide)), if_neg (nx 110 (by decide) (by decide)), if_neg (nx 116 (by decide) (by decide)), if_neg (nx 102 (by decide) (by decide)), if_pos hh]
      have he := numR_ext x t
      rw [isNum_ok hnt] at he
      rw [he (.inr hx)]
      show PR.ok (JsonD.mk 4 ((t ++ x).take ((t ++ x).length - ([] ++ x).length)) [] []) ([] ++ x) = _
      have e2 : (t ++ x).take ((t ++ x).length - ([] ++ x).length) = t := by simp
      rw [e2]; rfl
    rw [if_neg h4] at hw ⊢
    by_cases h5 : k = 5
    · subst h5
      rw [if_pos rfl] at hw ⊢
      simp only [Bool.and_eq_true, List.isEmpty_iff] at hw
      obtain ⟨⟨rfl, rfl⟩, hv⟩ := hw
      have hh : hdB (quoteJ t ++ x) = 34 := rfl
      rw [val_atom d (by rw [hh]; decide) (by rw [hh]; decide)]
      unfold atomR
      rw [if_pos hh, textR_quote hv]; rfl
    rw [if_neg h5] at hw ⊢
    rw [numJ, Bool.and_eq_true] at hn
    have hnm := numKs_mem hn.2
    by_cases h6 : k = 6
    · subst h6
      rw [if_pos rfl] at hw
      rw [if_neg (by decide)]
      simp only [Bool.and_eq_true, List.isEmpty_iff, decide_eq_true_eq] at hw
      obtain ⟨⟨⟨rfl, rfl⟩, hd⟩, hk⟩ := hw
      cases d with
      | zero => omega
      | succ d =>
        rw [Nat.add_sub_cancel] at hk
        have hwm := wfKs_mem hk
        have ih : ∀ v ∈ ks, ∀ x, stopX x → valR d (writeJ v ++ x) = .ok v x := fun v hv x hx => write_read d v (hwm v hv) (hnm v hv) x hx
        show valR (d + 1) (91 :: (writeKs ks true ++ [93] ++ x)) = _
        have e0 : valR (d + 1) (91 :: (writeKs ks true ++ [93] ++ x)) = (rowR (valR d) 93 (writeKs ks true ++ [93] ++ x)).bind fun ks t => .ok (.mk 6 [] [] ks) t := rfl
        have e1 : rowR (valR d) 93 (writeKs ks true ++ [93] ++ x) = .ok ks x := by
          cases ks with
          | nil => rfl
          | cons j r =>
            have e2 : writeKs (j :: r) true ++ [93] ++ x = writeJ j ++ (writeKs r false ++ 93 :: x) := by simp [writeKs, commaJ]
            rw [e2]
            obtain ⟨h1, h2⟩ := write_head (hnm j (by simp))
            have h3 := headJ_ne h2
            unfold rowR
            rw [skip_head (by rw [hd_app h1]; exact h3.1), hd_app h1, if_neg h3.2.1]
            exact items_write d r j ih hnm _ x [] (by omega)
        rw [e0, e1]; rfl
    rw [if_neg h6] at hw
    by_cases h7 : k = 7
    · subst h7
      rw [if_pos rfl] at hw ⊢
      simp only [Bool.and_eq_true, List.isEmpty_iff, decide_eq_true_eq] at hw
      obtain ⟨⟨⟨⟨rfl, hl⟩, hv⟩, hd⟩, hk⟩ := hw
      cases d with
      | zero => omega
      | succ d =>
        rw [Nat.add_sub_cancel] at hk
        have hwm := wfKs_mem hk
        have hvm := List.all_eq_true.1 hv
        have ih : ∀ v ∈ ks, ∀ x, stopX x → valR d (writeJ v ++ x) = .ok v x := fun v hv x hx => write_read d v (hwm v hv) (hnm v hv) x hx
        show valR (d + 1) (123 :: (writePs ks ns true ++ [125] ++ x)) = _
        have e0 : valR (d + 1) (123 :: (writePs ks ns true ++ [125] ++ x)) = (rowR (pairR (valR d)) 125 (writePs ks ns true ++ [125] ++ x)).bind fun ks t => .ok (.mk 7 [] (ks.map (·.1)) (ks.map (·.2))) t := rfl
        have e1 : rowR (pairR (valR d)) 125 (writePs ks ns true ++ [125] ++ x) = .ok (ns.zip ks) x := by
          cases ks with
          | nil =>
            have : ns = [] := List.eq_nil_of_length_eq_zero hl
            subst this; rfl
          | cons j r =>
            cases ns with
            | nil => cases hl
            | cons m ns =>
              have e2 : writePs (j :: r) (m :: ns) true ++ [125] ++ x = quoteJ m ++ 58 :: (writeJ j ++ (writePs r ns false ++ 125 :: x)) := by simp [writePs, commaJ]
              rw [e2]
              unfold rowR
              have hq : hdB (quoteJ m ++ 58 :: (writeJ j ++ (writePs r ns false ++ 125 :: x))) = 34 := rfl
              rw [skip_head (by rw [hq]; rfl), hq, if_neg (by decide)]
              exact pairs_write d r ns j m ih hnm hvm (by simpa using hl) _ x [] (by omega)
        rw [e0, e1]
        show PR.ok (JsonD.mk 7 [] ((ns.zip ks).map (·.1)) ((ns.zip ks).map (·.2))) x = _
        rw [List.map_fst_zip (by omega), List.map_snd_zip (by omega)]
    · rw [if_neg h7] at hw; cases hw
/-- A right value's text is read as the value. -/
theorem parse_write {j : JsonD} (h1 : wfJ j 20 = true) (h2 : numJ j = true) : parseE (writeJ j) = .ok j := by
  obtain ⟨h3, h4⟩ := write_head h2
  have h5 := write_read 20 j h1 h2 [] rfl
  rw [List.append_nil] at h5
  unfold parseE
  rw [skip_head (headJ_ne h4).1, h5]
  rfl
end Go.Proofs.YtlhhiiemojhjdaaDoor
