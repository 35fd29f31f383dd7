/- The codes, plain: what is written is read, and what is read is what would be written. -/
import Derived.Test.YteadblkkbbhpjaaU64
set_option linter.unusedVariables false
namespace Go.Proofs.Yteadblkkbbhpjaa
open Go Go.RowKit
theorem parity (i : Nat) : ∃ j, i = 2 * j ∨ i = 2 * j + 1 := ⟨i / 2, by omega⟩
theorem ext_gB {l m : List UInt8} (h : l.length = m.length) (hg : ∀ i, i < l.length → gB l i = gB m i) : l = m := by
  apply List.ext_getElem h
  intro i h1 h2
  have := hg i h1
  unfold gB at this
  simpa [List.getD, h1, h2] using this
theorem hex_even (s : List UInt8) (j : Nat) (h : j < s.length) : gB (hexL s) (2 * j) = gB hexd ((gB s j).toNat / 16) ∧ gB (hexL s) (2 * j + 1) = gB hexd ((gB s j).toNat % 16) := by
  induction s generalizing j with
  | nil => cases h
  | cons a t ih =>
    have e : hexL (a :: t) = gB hexd (a.toNat / 16) :: gB hexd (a.toNat % 16) :: hexL t := rfl
    rw [e]
    cases j with
    | zero => exact ⟨rfl, rfl⟩
    | succ j =>
      have := ih j (by simpa using h)
      rw [show 2 * (j + 1) = 2 * j + 2 from by omega, show 2 * j + 2 + 1 = 2 * j + 1 + 2 from by omega]
      exact this
theorem hexI_d : ∀ n : Nat, n < 16 → hexI (gB hexd n) = n := by decide +kernel
theorem hexd_I (c : UInt8) (h : 0 ≤ hexI c) : gB hexd (hexI c).toNat = c := by
  have hh : ∀ n : Nat, n < 256 → 0 ≤ hexI (UInt8.ofNat n) → gB hexd (hexI (UInt8.ofNat n)).toNat = UInt8.ofNat n := by decide +kernel
  have := hh c.toNat c.toNat_lt
  rw [UInt8.ofNat_toNat] at this
  exact this h
theorem unhex_hex (s : List UInt8) : unhexL (hexL s) = (s, 0, 0) := by
  have hlen := hexL_length s
  have hg : ∀ i, i < (hexL s).length → 0 ≤ hexI (gB (hexL s) i) := by
    intro i hi
    obtain ⟨j, hj⟩ := parity i
    rcases hj with rfl | rfl
    · rw [(hex_even s j (by omega)).1, hexI_d _ (by have := (gB s j).toNat_lt; omega)]; omega
    · rw [(hex_even s j (by omega)).2, hexI_d _ (by omega)]; omega
  have hb : badHex (hexL s) = none := find_range_none fun j hj => by have := hg j hj; simp; omega
  unfold unhexL
  rw [hb]
  simp only
  rw [if_neg (by omega), hlen]
  have e : 2 * s.length / 2 = s.length := by omega
  rw [e]
  congr 1
  apply ext_gB
  · simp [pairsL]
  · intro i hi
    simp [pairsL] at hi
    have hc := (gB s i).toNat_lt
    have h1 : gB (pairsL (hexL s) s.length) i = pairV (hexL s) i := by unfold gB pairsL; simp [List.getD, hi]
    rw [h1]
    unfold pairV
    rw [(hex_even s i hi).1, (hex_even s i hi).2, hexI_d _ (by omega), hexI_d _ (by omega)]
    rw [show (16 * (((gB s i).toNat / 16 : Nat) : Int) + (((gB s i).toNat % 16 : Nat) : Int)) = ((gB s i).toNat : Int) from by omega]
    exact byteOf_toNat _
theorem hex_unhex (s c : List UInt8) (at_ : Int) (h : unhexL s = (c, 0, at_)) : hexL c = s := by
  unfold unhexL at h
  cases hb : badHex s with
  | some i => rw [hb] at h; simp at h
  | none =>
    rw [hb] at h
    simp only at h
    by_cases ho : s.length % 2 = 1
    · rw [if_pos ho] at h; simp at h
    · rw [if_neg ho] at h
      have hc : c = pairsL s (s.length / 2) := by have := congrArg Prod.fst h; exact this.symm
      have hg : ∀ i, i < s.length → 0 ≤ hexI (gB s i) := by
        intro i hi
        have := List.find?_eq_none.1 hb i (List.mem_range.2 hi)
        simpa using this
      have hcl : c.length = s.length / 2 := by rw [hc]; simp [pairsL]
      apply ext_gB
      · rw [hexL_length, hcl]; omega
      · intro i hi
        rw [hexL_length, hcl] at hi
        have hpair : ∀ j, j < s.length / 2 → (gB c j).toNat / 16 = (hexI (gB s (2 * j))).toNat ∧ (gB c j).toNat % 16 = (hexI (gB s (2 * j + 1))).toNat := by
          intro j hj
          have h1 : gB c j = pairV s j := by rw [hc]; unfold gB pairsL; simp [List.getD, hj]
          have g1 := hg (2 * j) (by omega)
          have g2 := hg (2 * j + 1) (by omega)
          have b1 := (hexI_bd (gB s (2 * j))).2
          have b2 := (hexI_bd (gB s (2 * j + 1))).2
          have h2 : ((gB c j).toNat : Int) = 16 * hexI (gB s (2 * j)) + hexI (gB s (2 * j + 1)) := by rw [h1]; exact byteOf_int _ (by omega) (by omega)
          omega
        obtain ⟨j, hj⟩ := parity i
        rcases hj with rfl | rfl
        · have hj : j < s.length / 2 := by omega
          rw [(hex_even c j (by omega)).1, (hpair j hj).1]
          exact hexd_I _ (hg _ (by omega))
        · have hj : j < s.length / 2 := by omega
          rw [(hex_even c j (by omega)).2, (hpair j hj).2]
          exact hexd_I _ (hg _ (by omega))
end Go.Proofs.Yteadblkkbbhpjaa
