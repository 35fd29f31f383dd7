/- Base 64, plain: what is written is read. -/
import Derived.Test.YteadblkkbbhpjaaPlC
set_option linter.unusedVariables false
namespace Go.Proofs.Yteadblkkbbhpjaa
open Go Go.RowKit
theorem sixI_d : ∀ n : Nat, n < 64 → sixI (gB b64d n) = n := by decide +kernel
theorem six61 : sixI 61 = -1 := by decide +kernel
theorem b64d_I (c : UInt8) (h : 0 ≤ sixI c) : gB b64d (sixI c).toNat = c := by
  have hh : ∀ n : Nat, n < 256 → 0 ≤ sixI (UInt8.ofNat n) → gB b64d (sixI (UInt8.ofNat n)).toNat = UInt8.ofNat n := by decide +kernel
  have := hh c.toNat c.toNat_lt
  rw [UInt8.ofNat_toNat] at this
  exact this h
/-- The number of a sign. -/
def dN (l : List UInt8) (i : Nat) : Nat := (sixI (gB l i)).toNat
theorem scan4 (l : List UInt8) (a : Nat) (la : Bool) (hl : a + 4 ≤ l.length) (h0 : 0 ≤ sixI (gB l (a + 0))) (h1 : 0 ≤ sixI (gB l (a + 1))) (h2 : 0 ≤ sixI (gB l (a + 2))) (h3 : 0 ≤ sixI (gB l (a + 3))) :
    scanU l a la 4 0 0 0 = .inr (dN l (a + 0) * 262144 + dN l (a + 1) * 4096 + dN l (a + 2) * 64 + dN l (a + 3), 4) := by
  rw [scanU, if_neg (by omega), if_pos ⟨h0, rfl⟩, scanU, if_neg (by omega), if_pos ⟨h1, rfl⟩, scanU, if_neg (by omega), if_pos ⟨h2, rfl⟩, scanU, if_neg (by omega), if_pos ⟨h3, rfl⟩, scanU]
  simp [dN]
theorem scan3 (l : List UInt8) (a : Nat) (hl : a + 4 ≤ l.length) (h0 : 0 ≤ sixI (gB l (a + 0))) (h1 : 0 ≤ sixI (gB l (a + 1))) (h2 : 0 ≤ sixI (gB l (a + 2))) (h3 : gB l (a + 3) = 61) :
    scanU l a true 4 0 0 0 = .inr (dN l (a + 0) * 262144 + dN l (a + 1) * 4096 + dN l (a + 2) * 64, 3) := by
  rw [scanU, if_neg (by omega), if_pos ⟨h0, rfl⟩, scanU, if_neg (by omega), if_pos ⟨h1, rfl⟩, scanU, if_neg (by omega), if_pos ⟨h2, rfl⟩, scanU, if_neg (by omega),
    if_neg (by rw [h3, six61]; omega), if_pos ⟨h3, rfl, by omega⟩, scanU]
  simp [dN]
theorem scan2 (l : List UInt8) (a : Nat) (hl : a + 4 ≤ l.length) (h0 : 0 ≤ sixI (gB l (a + 0))) (h1 : 0 ≤ sixI (gB l (a + 1))) (h2 : gB l (a + 2) = 61) (h3 : gB l (a + 3) = 61) :
    scanU l a true 4 0 0 0 = .inr (dN l (a + 0) * 262144 + dN l (a + 1) * 4096, 2) := by
  rw [scanU, if_neg (by omega), if_pos ⟨h0, rfl⟩, scanU, if_neg (by omega), if_pos ⟨h1, rfl⟩, scanU, if_neg (by omega), if_neg (by rw [h2, six61]; omega), if_pos ⟨h2, rfl, by omega⟩, scanU, if_neg (by omega),
    if_neg (by omega), if_pos ⟨h3, rfl, by omega⟩, scanU]
  simp [dN]
theorem gB_b64 (s : List UInt8) (n j k : Nat) (hj : j < n) (hk : k < 4) : gB (b64L s n) (4 * j + k) = gB (fourL (s.drop (3 * j))) k := by
  induction n with
  | zero => omega
  | succ n ih =>
    rw [b64L_succ]
    have hl := b64L_length s n
    by_cases e : j < n
    · rw [← ih e]
      unfold gB
      simp only [List.getD]
      rw [List.getElem?_append_left (by omega)]
    · have e2 : j = n := by omega
      subst e2
      unfold gB
      simp only [List.getD]
      rw [List.getElem?_append_right (by omega), hl, show 4 * j + k - 4 * j = k from by omega]
theorem w24_lt (r : List UInt8) : w24 r < 16777216 := by unfold w24; have := (gB r 0).toNat_lt; have := (gB r 1).toNat_lt; have := (gB r 2).toNat_lt; omega
theorem four_3 (r : List UInt8) (h : 3 ≤ r.length) : fourL r = four0 (w24 r) := by
  have e : (r.take 3).length = 3 := by rw [List.length_take]; omega
  unfold fourL; rw [e]; simp [four0]
theorem four_2 (r : List UInt8) (h : r.length = 2) : fourL r = (four0 (w24 r)).take 3 ++ [61] := by
  have e : (r.take 3).length = 2 := by rw [List.length_take]; omega
  unfold fourL; rw [e]; rfl
theorem four_1 (r : List UInt8) (h : r.length = 1) : fourL r = (four0 (w24 r)).take 2 ++ [61, 61] := by
  have e : (r.take 3).length = 1 := by rw [List.length_take]; omega
  unfold fourL; rw [e]; rfl
theorem out3 (r : List UInt8) (h : 3 ≤ r.length) : outU (w24 r) 3 = r.take 3 := by
  match r, h with
  | a :: b :: c :: t, _ =>
    have ha := a.toNat_lt
    have hb := b.toNat_lt
    have hc := c.toNat_lt
    have e : w24 (a :: b :: c :: t) = a.toNat * 65536 + b.toNat * 256 + c.toNat := rfl
    rw [e]
    show [byteOf _, byteOf _, byteOf _] = [a, b, c]
    rw [show ((a.toNat * 65536 + b.toNat * 256 + c.toNat) / 2 ^ (16 - 8 * 0) % 256 : Nat) = a.toNat from by omega, show ((a.toNat * 65536 + b.toNat * 256 + c.toNat) / 2 ^ (16 - 8 * 1) % 256 : Nat) = b.toNat from by omega,
      show ((a.toNat * 65536 + b.toNat * 256 + c.toNat) / 2 ^ (16 - 8 * 2) % 256 : Nat) = c.toNat from by omega]
    rw [byteOf_toNat, byteOf_toNat, byteOf_toNat]
theorem out2 (r : List UInt8) (h : r.length = 2) : outU (w24 r) 2 = r ∧ w24 r % 256 = 0 := by
  match r, h with
  | [a, b], _ =>
    have ha := a.toNat_lt
    have hb := b.toNat_lt
    have e : w24 [a, b] = a.toNat * 65536 + b.toNat * 256 + 0 := rfl
    rw [e]
    refine ⟨?_, by omega⟩
    show [byteOf _, byteOf _] = [a, b]
    rw [show ((a.toNat * 65536 + b.toNat * 256 + 0) / 2 ^ (16 - 8 * 0) % 256 : Nat) = a.toNat from by omega, show ((a.toNat * 65536 + b.toNat * 256 + 0) / 2 ^ (16 - 8 * 1) % 256 : Nat) = b.toNat from by omega]
    rw [byteOf_toNat, byteOf_toNat]
theorem out1 (r : List UInt8) (h : r.length = 1) : outU (w24 r) 1 = r ∧ w24 r % 65536 = 0 := by
  match r, h with
  | [a], _ =>
    have ha := a.toNat_lt
    have e : w24 [a] = a.toNat * 65536 + 0 * 256 + 0 := rfl
    rw [e]
    refine ⟨?_, by omega⟩
    show [byteOf _] = [a]
    rw [show ((a.toNat * 65536 + 0 * 256 + 0) / 2 ^ (16 - 8 * 0) % 256 : Nat) = a.toNat from by omega]
    rw [byteOf_toNat]
theorem unb_b64_go (s : List UInt8) (n : Nat) (hn : n = (s.length + 2) / 3) (f : Nat) : ∀ (j : Nat) (acc : List UInt8), j + f = n → acc = s.take (3 * j) → unGo (b64L s n) f (4 * j) acc = (s, 0, 0) := by
  induction f with
  | zero =>
    intro j acc hj ha
    rw [unGo, ha, List.take_of_length_le (by omega)]
  | succ f ih =>
    intro j acc hj ha
    have hT := b64L_length s n
    have hr : (s.drop (3 * j)).length = s.length - 3 * j := by simp
    have g := fun k hk => gB_b64 s n j k (by omega) hk
    have g0 := g 0 (by omega)
    have g1 := g 1 (by omega)
    have g2 := g 2 (by omega)
    have g3 := g 3 (by omega)
    have hw := w24_lt (s.drop (3 * j))
    have htk : ∀ x, x = (s.drop (3 * j)).take 3 → acc ++ x = s.take (3 * (j + 1)) := by
      intro x hx
      rw [ha, hx, show 3 * (j + 1) = 3 * j + 3 from by omega, List.take_add]
    generalize hrr : s.drop (3 * j) = r at *
    rw [unGo]
    by_cases h3 : 3 ≤ r.length
    · rw [four_3 r h3] at g0 g1 g2 g3
      have f0 : gB (four0 (w24 r)) 0 = gB b64d (w24 r / 262144) := rfl
      have f1 : gB (four0 (w24 r)) 1 = gB b64d (w24 r / 4096 % 64) := rfl
      have f2 : gB (four0 (w24 r)) 2 = gB b64d (w24 r / 64 % 64) := rfl
      have f3 : gB (four0 (w24 r)) 3 = gB b64d (w24 r % 64) := rfl
      rw [f0] at g0
      rw [f1] at g1
      rw [f2] at g2
      rw [f3] at g3
      have s0 : sixI (gB (b64L s n) (4 * j + 0)) = (w24 r / 262144 : Nat) := by rw [g0, sixI_d _ (by omega)]
      have s1 : sixI (gB (b64L s n) (4 * j + 1)) = (w24 r / 4096 % 64 : Nat) := by rw [g1, sixI_d _ (by omega)]
      have s2 : sixI (gB (b64L s n) (4 * j + 2)) = (w24 r / 64 % 64 : Nat) := by rw [g2, sixI_d _ (by omega)]
      have s3 : sixI (gB (b64L s n) (4 * j + 3)) = (w24 r % 64 : Nat) := by rw [g3, sixI_d _ (by omega)]
      rw [scan4 _ _ _ (by omega) (by omega) (by omega) (by omega) (by omega)]
      have e : dN (b64L s n) (4 * j + 0) * 262144 + dN (b64L s n) (4 * j + 1) * 4096 + dN (b64L s n) (4 * j + 2) * 64 + dN (b64L s n) (4 * j + 3) = w24 r := by
        unfold dN; rw [s0, s1, s2, s3]; simp only [Int.toNat_natCast]; omega
      rw [e]
      simp only
      rw [if_neg (by simp), show 4 - 1 = 3 from rfl, out3 r h3, show 4 * j + 4 = 4 * (j + 1) from by omega]
      exact ih (j + 1) _ (by omega) (htk _ rfl)
    · have hla : decide ((b64L s n).length ≤ 4 * j + 4) = true := by rw [decide_eq_true_eq]; omega
      rw [hla]
      by_cases h2 : r.length = 2
      · rw [four_2 r h2] at g0 g1 g2 g3
        have f0 : gB ((four0 (w24 r)).take 3 ++ [61]) 0 = gB b64d (w24 r / 262144) := rfl
        have f1 : gB ((four0 (w24 r)).take 3 ++ [61]) 1 = gB b64d (w24 r / 4096 % 64) := rfl
        have f2 : gB ((four0 (w24 r)).take 3 ++ [61]) 2 = gB b64d (w24 r / 64 % 64) := rfl
        have f3 : gB ((four0 (w24 r)).take 3 ++ [61]) 3 = 61 := rfl
        rw [f0] at g0
        rw [f1] at g1
        rw [f2] at g2
        rw [f3] at g3
        have s0 : sixI (gB (b64L s n) (4 * j + 0)) = (w24 r / 262144 : Nat) := by rw [g0, sixI_d _ (by omega)]
        have s1 : sixI (gB (b64L s n) (4 * j + 1)) = (w24 r / 4096 % 64 : Nat) := by rw [g1, sixI_d _ (by omega)]
        have s2 : sixI (gB (b64L s n) (4 * j + 2)) = (w24 r / 64 % 64 : Nat) := by rw [g2, sixI_d _ (by omega)]
        obtain ⟨o1, o2⟩ := out2 r h2
        rw [scan3 _ _ (by omega) (by omega) (by omega) (by omega) g3]
        have e : dN (b64L s n) (4 * j + 0) * 262144 + dN (b64L s n) (4 * j + 1) * 4096 + dN (b64L s n) (4 * j + 2) * 64 = w24 r := by
          unfold dN; rw [s0, s1, s2]; simp only [Int.toNat_natCast]; omega
        rw [e]
        simp only
        rw [if_neg (by simp; omega), show 3 - 1 = 2 from rfl, o1, show 4 * j + 4 = 4 * (j + 1) from by omega]
        exact ih (j + 1) _ (by omega) (htk _ (by rw [List.take_of_length_le (by omega)]))
      · have h1 : r.length = 1 := by omega
        rw [four_1 r h1] at g0 g1 g2 g3
        have f0 : gB ((four0 (w24 r)).take 2 ++ [61, 61]) 0 = gB b64d (w24 r / 262144) := rfl
        have f1 : gB ((four0 (w24 r)).take 2 ++ [61, 61]) 1 = gB b64d (w24 r / 4096 % 64) := rfl
        have f2 : gB ((four0 (w24 r)).take 2 ++ [61, 61]) 2 = 61 := rfl
        have f3 : gB ((four0 (w24 r)).take 2 ++ [61, 61]) 3 = 61 := rfl
        rw [f0] at g0
        rw [f1] at g1
        rw [f2] at g2
        rw [f3] at g3
        have s0 : sixI (gB (b64L s n) (4 * j + 0)) = (w24 r / 262144 : Nat) := by rw [g0, sixI_d _ (by omega)]
        have s1 : sixI (gB (b64L s n) (4 * j + 1)) = (w24 r / 4096 % 64 : Nat) := by rw [g1, sixI_d _ (by omega)]
        obtain ⟨o1, o2⟩ := out1 r h1
        rw [scan2 _ _ (by omega) (by omega) (by omega) g2 g3]
        have e : dN (b64L s n) (4 * j + 0) * 262144 + dN (b64L s n) (4 * j + 1) * 4096 = w24 r := by
          unfold dN; rw [s0, s1]; simp only [Int.toNat_natCast]; omega
        rw [e]
        simp only
        rw [if_neg (by simp; omega), show 2 - 1 = 1 from rfl, o1, show 4 * j + 4 = 4 * (j + 1) from by omega]
        exact ih (j + 1) _ (by omega) (htk _ (by rw [List.take_of_length_le (by omega)]))
theorem unb_b64 (s : List UInt8) : unbase64L (base64L s) = (s, 0, 0) := by
  unfold unbase64L base64L
  have hT := b64L_length s ((s.length + 2) / 3)
  rw [hT, show (4 * ((s.length + 2) / 3) + 3) / 4 = (s.length + 2) / 3 from by omega]
  exact unb_b64_go s _ rfl _ 0 [] (by omega) (by simp)
end Go.Proofs.Yteadblkkbbhpjaa
