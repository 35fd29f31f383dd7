/- The chapter's examples, reckoned. -/
import Derived.Test.YteadblkkbbhpjaaSnU
set_option linter.unusedVariables false
namespace Go.Proofs.Yteadblkkbbhpjaa
open Go Go.RowKit
def zsK : List UInt8 := List.replicate 450 0
def blK : List UInt8 := List.replicate 200 0
set_option maxRecDepth 100000 in
theorem heads_differ : headL [110] 450 ≠ headL [109] 450 := by decide +kernel
set_option maxRecDepth 100000 in
theorem sums_differ : sumL [110] 450 1 blK ≠ sumL [110] 450 1 (blK.set 49 4) := by decide +kernel
theorem sub_set_out (l : List UInt8) (i a b : Nat) (x : UInt8) (h : i < a ∨ b ≤ i) : sub (l.set i x) a b = sub l a b := by
  unfold sub
  rw [List.take_set, List.drop_set]
  split
  · rfl
  · rename_i hh
    rcases h with h | h
    · omega
    · rw [List.set_eq_of_length_le]; rw [List.length_drop, List.length_take]; omega
theorem sub_set_in (l : List UInt8) (i a b : Nat) (x : UInt8) (h1 : a ≤ i) : sub (l.set i x) a b = (sub l a b).set (i - a) x := by
  unfold sub
  rw [List.take_set, List.drop_set, if_neg (by omega)]
theorem gB_sub' (l : List UInt8) (a b k : Nat) (h : a + k < b) : gB (sub l a b) k = gB l (a + k) := by
  unfold gB sub; simp [List.getD, h]
theorem zs_len : zsK.length = 450 := List.length_replicate
theorem blk_zs : blkL zsK 1 = blK := by decide +kernel
def seK : List UInt8 := sealL [110] zsK
theorem se_len : seK.length = 582 := by
  have := sealL_len [110] zsK (by rw [zs_len]; omega)
  rw [zs_len] at this
  have h : sizeI ((450 : Nat) : Int) = 582 := by decide
  unfold seK; omega
theorem se_317 : gB seK 317 = 0 := by
  have h := (seal_at [110] zsK 1 (by rw [zs_len]; decide)).1
  rw [blk_zs, zs_len] at h
  have e1 : sK 450 1 = 268 := by decide
  have e2 : zK 450 1 = 200 := by decide
  unfold obL at h
  rw [e1, e2] at h
  have h2 : gB (sub (sealL [110] zsK) 268 (268 + 200)) 49 = gB seK 317 := gB_sub' _ _ _ _ (by omega)
  rw [← h2, h]
  decide +kernel
theorem open_m : OpSays [109] seK [] 14 0 := by
  refine .inr (.inl ⟨by decide, fun h => ?_, rfl, rfl, rfl⟩)
  have hr := r32_seal [110] zsK (by rw [zs_len]; omega)
  have h4 := h.2.2.2
  have h5 : sub seK 0 36 = headL [110] 450 := by
    have ho := open_seal [110] zsK (by decide) (by rw [zs_len]; omega)
    rcases ho with ⟨h, _⟩ | ⟨_, _, _, h, _⟩ | ⟨_, _, _, _, _, _, _, h, _⟩ | ⟨_, h, _⟩
    · simp at h
    · simp at h
    · simp at h
    · have := h.2.2.2
      rw [hr, zs_len] at this
      exact this
  unfold seK at h4 h5
  rw [hr, zs_len] at h4
  rw [h5] at h4
  exact heads_differ h4
theorem open_flip : OpSays [110] (seK.set 317 4) [] 14 268 := by
  have hr := r32_seal [110] zsK (by rw [zs_len]; omega)
  rw [zs_len] at hr
  have ho := open_seal [110] zsK (by decide) (by rw [zs_len]; omega)
  obtain ⟨hh, hok⟩ : OpHead [110] seK ∧ ∀ j, j < nB 450 → okK [110] seK 450 j = true := by
    rcases ho with ⟨h, _⟩ | ⟨_, _, _, h, _⟩ | ⟨_, _, _, _, _, _, _, h, _⟩ | ⟨_, h, hj, _⟩
    · simp at h
    · simp at h
    · simp at h
    · rw [hr] at hj; exact ⟨h, hj⟩
  have hs0 : ∀ a b, (b ≤ 317) → sub (seK.set 317 4) a b = sub seK a b := fun a b h => sub_set_out _ _ _ _ _ (.inr h)
  have hr' : r32 (seK.set 317 4) = 450 := by
    rw [← r32_sub (seK.set 317 4) (by rw [List.length_set, se_len]; omega), hs0 0 4 (by omega), r32_sub seK (by rw [se_len]; omega)]
    exact hr
  have e1 : sK 450 1 = 268 := by decide
  have e2 : zK 450 1 = 200 := by decide
  have e3 : sK 450 0 = 36 := by decide
  have e4 : zK 450 0 = 200 := by decide
  obtain ⟨b1, s1⟩ := seal_at [110] zsK 1 (by rw [zs_len]; decide)
  rw [blk_zs, zs_len] at b1 s1
  refine .inr (.inr (.inl ⟨by decide, ⟨by rw [List.length_set, se_len]; omega, by rw [hr']; omega, ?_, ?_⟩, 1, by rw [hr']; decide, ?_, ?_, rfl, rfl, by rw [hr']; decide⟩))
  · rw [hr', List.length_set, se_len]; decide
  · rw [hr', hs0 0 36 (by omega), hh.2.2.2]; unfold seK; rw [hr]; rfl
  · rw [hr']
    intro j hj
    obtain rfl : j = 0 := by omega
    have := hok 0 (by decide)
    unfold okK obL osL at this ⊢
    simp only [show (450 : Int).toNat = 450 from rfl, e3, e4] at this ⊢
    rw [hs0 _ _ (by omega), hs0 _ _ (by omega)]
    exact this
  · rw [hr']
    unfold okK
    rw [decide_eq_false_iff_not]
    have ho1 : osL (seK.set 317 4) 450 1 = sumL [110] 450 1 blK := by
      unfold osL
      rw [sub_set_out _ _ _ _ _ (.inl (by rw [e1, e2]; omega))]
      exact s1
    have hb1 : obL (seK.set 317 4) 450 1 = blK.set 49 4 := by
      unfold obL
      rw [sub_set_in _ _ _ _ _ (by rw [e1]; omega), e1]
      have : sub seK 268 (268 + zK 450 1) = blK := by unfold obL at b1; rw [e1] at b1; exact b1
      rw [this]
    intro h
    have h' : osL (seK.set 317 4) 450 1 = sumL [110] 450 1 (obL (seK.set 317 4) 450 1) := h
    rw [ho1, hb1] at h'
    exact sums_differ h'
end Go.Proofs.Yteadblkkbbhpjaa
