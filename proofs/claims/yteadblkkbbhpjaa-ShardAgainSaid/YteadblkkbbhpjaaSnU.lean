/- Plain laws of chapter 9: what was sealed is opened again, and what opens is a sealed text. -/
import Derived.Test.YteadblkkbbhpjaaSnT
set_option linter.unusedVariables false
namespace Go.Proofs.Yteadblkkbbhpjaa
open Go Go.RowKit
theorem take_sub (s : List UInt8) (a b : Nat) (h : a ≤ b) : s.take a ++ sub s a b = s.take b := by
  unfold sub
  rw [show s.take a = (s.take b).take a by rw [List.take_take, Nat.min_eq_left h]]
  exact List.take_append_drop a _
theorem sub_mid (A b r : List UInt8) (i j : Nat) (hi : i = A.length) (hj : j = A.length + b.length) : sub (A ++ (b ++ r)) i j = b := by
  subst hi; subst hj
  unfold sub
  rw [List.take_append, List.take_of_length_le (by omega), List.drop_left, Nat.add_sub_cancel_left, List.take_left]
theorem r32_U32' (n : Int) (post : List UInt8) (h0 : 0 ≤ n) (h1 : n < 4294967296) : r32 (U32 n ++ post) = n := by
  have e0 : gB (U32 n ++ post) 0 = byteOf (n / 16777216 % 256) := rfl
  have e1 : gB (U32 n ++ post) 1 = byteOf (n / 65536 % 256) := rfl
  have e2 : gB (U32 n ++ post) 2 = byteOf (n / 256 % 256) := rfl
  have e3 : gB (U32 n ++ post) 3 = byteOf (n % 256) := rfl
  unfold r32
  rw [e0, e1, e2, e3, byteOf_int _ (by omega) (by omega), byteOf_int _ (by omega) (by omega), byteOf_int _ (by omega) (by omega), byteOf_int _ (by omega) (by omega)]
  omega
theorem headL_len (nm : List UInt8) (n : Int) : (headL nm n).length = 36 := by unfold headL; rw [List.length_append, length_U32, sha_length]
theorem sealK_le (nm l : List UInt8) (k : Nat) : ∀ d, ∃ r, sealK nm l (k + d) = sealK nm l k ++ r := by
  intro d
  induction d with
  | zero => exact ⟨[], by simp⟩
  | succ d ih =>
    obtain ⟨r, hr⟩ := ih
    exact ⟨_, by rw [← Nat.add_assoc, sealK_s, hr, List.append_assoc]⟩
theorem sK_end (n : Nat) (hn : n ≤ 10000) : (sK n (nB n) : Int) = sizeI n := by
  unfold sizeI; rw [if_neg (by omega)]
  unfold sK; rw [aK_e]; unfold nB; omega
theorem sealL_len (nm l : List UInt8) (hl : l.length ≤ 10000) : ((sealL nm l).length : Int) = sizeI l.length := by
  unfold sealL; rw [sealK_len nm l _ (Nat.le_refl _), sK_end _ hl]
theorem r32_seal (nm l : List UInt8) (hl : l.length ≤ 10000) : r32 (sealL nm l) = l.length := by
  unfold sealL sealK headL
  rw [List.append_assoc]
  exact r32_U32' _ _ (by omega) (by omega)
theorem blk_len (l : List UInt8) (k : Nat) (hk : k < nB l.length) : (blkL l k).length = zK l.length k := by
  have := aK_lt l.length k hk
  unfold blkL zK; rw [length_sub]; omega
theorem seal_at (nm l : List UInt8) (k : Nat) (hk : k < nB l.length) : obL (sealL nm l) l.length k = blkL l k ∧ osL (sealL nm l) l.length k = sumL nm l.length k (blkL l k) := by
  obtain ⟨r, hr⟩ := sealK_le nm l (k + 1) (nB l.length - (k + 1))
  rw [show k + 1 + (nB l.length - (k + 1)) = nB l.length by omega] at hr
  have hr2 : sealL nm l = sealK nm l k ++ (blkL l k ++ (sumL nm l.length k (blkL l k) ++ r)) := by unfold sealL; rw [hr, sealK_s]; simp
  have hlen := sealK_len nm l k (by omega)
  have hbl := blk_len l k hk
  have hsl : (sumL nm l.length k (blkL l k)).length = 32 := sha_length _
  refine ⟨?_, ?_⟩
  · unfold obL; rw [hr2]; exact sub_mid _ _ _ _ _ hlen.symm (by rw [hlen, hbl])
  · unfold osL; rw [hr2, ← List.append_assoc]
    exact sub_mid _ _ _ _ _ (by rw [List.length_append, hlen, hbl]) (by rw [List.length_append, hlen, hbl, hsl])
theorem text_seal (nm l : List UInt8) : ∀ k, k ≤ nB l.length → textK (sealL nm l) l.length k = l.take (aK l.length k) := by
  intro k
  induction k with
  | zero => intro _; simp [textK, aK]
  | succ k ih =>
    intro hk
    have ha := aK_lt l.length k (by omega)
    rw [textK_s, ih (by omega), (seal_at nm l k (by omega)).1, aK_s _ _ (by omega)]
    have : blkL l k = sub l (aK l.length k) (aK l.length k + zK l.length k) := by
      unfold blkL; rw [ha.1]; congr 1; unfold zK; omega
    rw [this]
    exact take_sub _ _ _ (by omega)
/-- What was sealed is opened again. -/
theorem open_seal (nm l : List UInt8) (hn : nm.length ≤ 220) (hl : l.length ≤ 10000) : OpSays nm (sealL nm l) l 0 0 := by
  have hr := r32_seal nm l hl
  have hs := sealL_len nm l hl
  have hsz : sizeI l.length = 36 + l.length + 32 * ((l.length + 199) / 200) := by unfold sizeI; rw [if_neg (by omega)]
  refine .inr (.inr (.inr ⟨hn, ⟨by omega, by omega, by rw [hr]; exact hs, ?_⟩, ?_, ?_, rfl, rfl⟩))
  · rw [hr]
    unfold sealL sealK
    have := headL_len nm l.length
    exact sub_mid [] (headL nm l.length) _ 0 36 rfl (by simp [this])
  · rw [hr, Int.toNat_natCast]
    intro j hj
    obtain ⟨h1, h2⟩ := seal_at nm l j hj
    unfold okK
    rw [h2, h1]
    simp
  · rw [hr, Int.toNat_natCast, text_seal nm l _ (Nat.le_refl _), aK_e, List.take_length]
theorem text_len (s : List UInt8) (n : Nat) (hn : n ≤ 10000) (hs : (s.length : Int) = sizeI n) : ∀ k, k ≤ nB n → (textK s n k).length = aK n k := by
  intro k
  induction k with
  | zero => intro _; simp [textK, aK]
  | succ k ih =>
    intro hk
    rw [textK_s, List.length_append, ih (by omega), obL_len s n k hn (by omega) hs, aK_s n k (by omega)]
theorem textK_le (s : List UInt8) (n k : Nat) : ∀ d, ∃ r, textK s n (k + d) = textK s n k ++ r := by
  intro d
  induction d with
  | zero => exact ⟨[], by simp⟩
  | succ d ih =>
    obtain ⟨r, hr⟩ := ih
    exact ⟨_, by rw [← Nat.add_assoc, textK_s, hr, List.append_assoc]⟩
theorem blk_text (s : List UInt8) (n : Nat) (hn : n ≤ 10000) (hs : (s.length : Int) = sizeI n) (k : Nat) (hk : k < nB n) : blkL (textK s n (nB n)) k = obL s n k := by
  obtain ⟨r, hr⟩ := textK_le s n (k + 1) (nB n - (k + 1))
  rw [show k + 1 + (nB n - (k + 1)) = nB n by omega] at hr
  have hl := text_len s n hn hs (nB n) (Nat.le_refl _)
  rw [aK_e] at hl
  have hlk := text_len s n hn hs k (by omega)
  have hob := obL_len s n k hn hk hs
  have ha := aK_lt n k hk
  unfold blkL
  rw [hl, hr, textK_s, List.append_assoc]
  refine sub_mid _ _ _ _ _ (by rw [hlk, ha.1]) ?_
  rw [hlk, hob, ha.1]; unfold zK; omega
/-- What opens is a sealed text. -/
theorem seal_open (nm s : List UInt8) (n : Nat) (hN : r32 s = n) (hh : OpHead nm s) (hok : ∀ j, j < nB n → okK nm s n j = true) : (textK s n (nB n)).length = n ∧ sealL nm (textK s n (nB n)) = s := by
  obtain ⟨h1, h2, h3, h4⟩ := hh
  rw [hN] at h2 h3 h4
  have hn : n ≤ 10000 := by omega
  have hl := text_len s n hn h3 (nB n) (Nat.le_refl _)
  rw [aK_e] at hl
  refine ⟨hl, ?_⟩
  have hend := sK_end n hn
  have key : ∀ k, k ≤ nB n → sealK nm (textK s n (nB n)) k = s.take (sK n k) := by
    intro k
    induction k with
    | zero =>
      intro _
      unfold sealK
      rw [hl, ← h4, sK_0]
      simp [sub]
    | succ k ih =>
      intro hk
      have hb := blk_text s n hn h3 k (by omega)
      have hk' := of_decide_eq_true (hok k (by omega))
      rw [sealK_s, ih (by omega), hl, hb, ← hk', sK_s n k (by omega)]
      unfold obL osL
      rw [← List.append_assoc, take_sub _ _ _ (by omega), take_sub _ _ _ (by omega)]
  unfold sealL
  rw [hl, key _ (Nat.le_refl _)]
  exact List.take_of_length_le (by omega)
end Go.Proofs.Yteadblkkbbhpjaa
