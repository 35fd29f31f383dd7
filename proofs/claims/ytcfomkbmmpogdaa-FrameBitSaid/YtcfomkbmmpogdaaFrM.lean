/- Plain law: a record in which a bit is turned is none. -/
import Derived.Test.YtcfomkbmmpogdaaFrP
import Derived.Test.YtcfomkbmmpogdaaCrcM
set_option linter.unusedVariables false
namespace Go.Proofs.Ytcfomkbmmpogdaa
open Go Go.RowKit

theorem length_flip (l : List UInt8) (i : Nat) (x : UInt8) : (flipB l i x).length = l.length := by unfold flipB; simp
theorem gB_flip (l : List UInt8) (i : Nat) (x : UInt8) (h : i < l.length) : gB (flipB l i x) i = gB l i ^^^ x := by
  unfold gB flipB; simp [List.getD, h]
theorem gB_flip_ne (l : List UInt8) (i k : Nat) (x : UInt8) (h : i ≠ k) : gB (flipB l i x) k = gB l k := by
  unfold gB flipB; simp [List.getD, h]
theorem gB_sub (l : List UInt8) (a b k : Nat) (h : a + k < b) : gB (sub l a b) k = gB l (a + k) := by
  unfold gB sub; simp [List.getD, h]
theorem sub_flip_out (l : List UInt8) (i a b : Nat) (x : UInt8) (h : i < a ∨ b ≤ i) : sub (flipB l i x) a b = sub l a b := by
  unfold sub flipB
  rw [List.take_set]
  rcases h with h | h
  · rw [List.drop_set, if_pos h]
  · rw [List.set_eq_of_length_le (by rw [List.length_take]; omega)]
theorem sub_flip_in (l : List UInt8) (i a b : Nat) (x : UInt8) (h1 : a ≤ i) (h2 : i < b) : sub (flipB l i x) a b = flipB (sub l a b) (i - a) x := by
  have e : (sub l a b).getD (i - a) 0 = l.getD i 0 := by
    have := gB_sub l a b (i - a) (by omega)
    unfold gB at this
    rw [this, show a + (i - a) = i from by omega]
  unfold flipB
  rw [e]
  unfold sub
  rw [List.take_set, List.drop_set, if_neg (by omega)]
theorem xor_ne (a x : UInt8) (hx : x ≠ 0) : a ^^^ x ≠ a := by
  intro h
  apply hx
  have := congrArg (fun y => a ^^^ y) h
  simpa [← UInt8.xor_assoc] using this
theorem r32_bytes {x y : List UInt8} (h : r32 x = r32 y) (k : Nat) (hk : k < 4) : gB x k = gB y k := by
  have e := byteOf_U32 x
  rw [h, byteOf_U32 y] at e
  simp only [List.cons.injEq, and_true] at e
  match k, hk with
  | 0, _ => exact e.1.symm
  | 1, _ => exact e.2.1.symm
  | 2, _ => exact e.2.2.1.symm
  | 3, _ => exact e.2.2.2.symm
theorem r32_ext {x y : List UInt8} (h : ∀ k, k < 4 → gB x k = gB y k) : r32 x = r32 y := by
  unfold r32; rw [h 0 (by omega), h 1 (by omega), h 2 (by omega), h 3 (by omega)]

theorem flip_bad (e n : Int) (q : List UInt8) (i : Nat) (x : UInt8) (hr : rightB e n = true) (hq : q.length ≤ 60000) (hi : i < 24 + q.length) (hi2 : i = 0 ∨ 8 ≤ i) (hx : x ≠ 0) :
    ¬ UnpOk (flipB (packL e n q) i x) e n := by
  have hp := packL_unp e n q [] hr hq
  rw [List.append_nil] at hp
  obtain ⟨⟨_, h24, hb1, _, hE, hT, hC⟩, hN, hS⟩ := hp
  have hPl := packL_length e n q
  have hlen : 24 + q.length ≤ (packL e n q).length := by unfold endsN at hPl; omega
  generalize packL e n q = P at *
  rintro ⟨_, _, gb, _, _, gT, gC⟩
  by_cases h0 : i = 0
  · subst h0
    rw [gB_flip _ _ _ (by omega)] at gb
    have h1 : gB P 0 = 1 := UInt8.toNat_inj.1 (by simpa using hb1)
    have h2 : gB P 0 ^^^ x = 1 := UInt8.toNat_inj.1 (by simpa using gb)
    exact xor_ne _ x hx (h2.trans h1.symm)
  · have h8 : 8 ≤ i := by omega
    by_cases h20 : i < 20
    · rw [sub_flip_in _ _ _ _ _ h8 h20, ← hT] at gT
      have : gB (flipB (sub P 8 20) (i - 8) x) (i - 8) = gB (sub P 8 20) (i - 8) := by rw [gT]
      rw [gB_flip _ _ _ (by rw [length_sub]; omega)] at this
      exact xor_ne _ x hx this
    · have hn4 : nAt (flipB P i x) 4 = q.length := by
        have h7 : r32 (sub (flipB P i x) 4 P.length) = r32 (sub P 4 P.length) := by
          apply r32_ext
          intro k hk
          rw [gB_sub _ _ _ _ (by omega), gB_sub _ _ _ _ (by omega), gB_flip_ne _ _ _ _ (by omega)]
        unfold nAt at hN ⊢
        rw [length_flip, h7, hN]
      have h4 : sub (flipB P i x) 4 20 = sub P 4 20 := sub_flip_out _ _ _ _ _ (.inr (by omega))
      unfold uCrc at gC hC
      rw [hn4, h4, length_flip] at gC
      rw [hN] at hC
      by_cases h24' : i < 24
      · rw [sub_flip_out P i 24 _ x (.inl h24'), ← hC] at gC
        have := r32_bytes gC (i - 20) (by omega)
        rw [sub_flip_in _ _ _ _ _ (by omega) (by omega), gB_flip _ _ _ (by rw [length_sub]; omega)] at this
        exact xor_ne _ x hx this
      · have h5 : r32 (sub (flipB P i x) 20 P.length) = r32 (sub P 20 P.length) := by
          apply r32_ext
          intro k hk
          rw [gB_sub _ _ _ _ (by omega), gB_sub _ _ _ _ (by omega), gB_flip_ne _ _ _ _ (by omega)]
        rw [h5, hC, sub_flip_in P i 24 (24 + q.length) x (by omega) (by omega)] at gC
        have h6 : crcMore (crcSum (sub P 4 20)) (sub P 24 (24 + q.length)) = crcMore (crcSum (sub P 4 20)) (flipB (sub P 24 (24 + q.length)) (i - 24) x) := BitVec.eq_of_toNat_eq (by omega)
        exact crcMore_flip _ _ x hx (i - 24) (by rw [length_sub]; omega) h6.symm
end Go.Proofs.Ytcfomkbmmpogdaa
