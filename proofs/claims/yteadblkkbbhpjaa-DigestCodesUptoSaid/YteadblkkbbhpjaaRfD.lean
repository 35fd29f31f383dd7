/- The reference's place: where a byte stands in a text. -/
import Derived.Test.YteadblkkbbhpjaaU64
set_option linter.unusedVariables false
namespace Go.Proofs.Yteadblkkbbhpjaa
open Go Go.RowKit
theorem index_at {t : List UInt8} {c : UInt8} {k : Nat} (hk : k < t.length) (h1 : gB t k = c) (h2 : ∀ j, j < k → gB t j ≠ c) : Lib.indexByte t c = k := by
  have g1 : t[k]? = some c := by rw [← h1]; unfold gB; rw [List.getElem?_eq_getElem hk]; simp [List.getD, List.getElem?_eq_getElem hk]
  have hge := Lib.indexByte_ge t c
  by_cases hn : Lib.indexByte t c = -1
  · exact absurd g1 (Lib.indexByte_none hn k)
  · have ho : Lib.indexByte t c = ((Lib.indexByte t c).toNat : Int) := by omega
    obtain ⟨a1, a2⟩ := Lib.indexByte_some ho
    generalize (Lib.indexByte t c).toNat = o at *
    have hol : o < t.length := by
      by_cases h : o < t.length
      · exact h
      · rw [List.getElem?_eq_none (by omega)] at a1; cases a1
    have g2 : gB t o = c := by unfold gB; simp [List.getD, a1]
    have e1 : ¬ o < k := fun h => h2 o h g2
    have e2 : ¬ k < o := fun h => a2 k h g1
    omega
theorem index_no {t : List UInt8} {c : UInt8} (h2 : ∀ j, j < t.length → gB t j ≠ c) : Lib.indexByte t c = -1 := by
  have hge := Lib.indexByte_ge t c
  by_cases hn : Lib.indexByte t c = -1
  · exact hn
  · have ho : Lib.indexByte t c = ((Lib.indexByte t c).toNat : Int) := by omega
    obtain ⟨a1, a2⟩ := Lib.indexByte_some ho
    generalize (Lib.indexByte t c).toNat = o at *
    have hol : o < t.length := by
      by_cases h : o < t.length
      · exact h
      · rw [List.getElem?_eq_none (by omega)] at a1; cases a1
    have g2 : gB t o = c := by unfold gB; simp [List.getD, a1]
    exact absurd g2 (h2 o hol)
set_option maxRecDepth 100000 in
set_option maxHeartbeats 4000000 in
theorem place_any (t : List UInt8) (c : UInt8) (w : World) (ht : t.length ≤ 140737488355328) : Calls Try.prog 61 #[.string ⟨t.toArray⟩, .int .u8 (c.toNat : Int)] w fun e w' => e = .returned (.int .i64 (Lib.indexByte t c)) ∧ w = w' := by
  go_enter Try.func61, Try.ntmps61
  go_wp2_with fail
  go_loop [5] (fun i => ∃ k : Nat, k ≤ t.length ∧ i = .int .i64 k ∧ Hid (∀ j, j < k → gB t j ≠ c)) (fun i => t.length - (intOf i).toNat)
  case atStart => exact ⟨0, by omega, rfl, Lib.hid (fun j hj => by omega)⟩
  case round =>
    obtain ⟨k, hk, rfl, hno⟩ := hrel
    by_cases hlt : k < t.length
    · have hd : decide (k < t.length) = true := by simpa using hlt
      by_cases he : gB t k = c
      · have hde : ((gB t k).toNat == c.toNat) = true := by rw [he]; simp
        have hres := index_at hlt he hno.out
        have HR := Lib.hid hres
        clear hres
        go_wp2_with fail
        go_ret
        exact ⟨by rw [HR.out]; rfl, rfl⟩
      · have hde : ((gB t k).toNat == c.toNat) = false := by
          simp only [beq_eq_false_iff_ne]
          intro h
          exact he (UInt8.toNat_inj.1 h)
        have hno2 : Hid (∀ j, j < k + 1 → gB t j ≠ c) := Lib.hid fun j hj => by
          by_cases e : j = k
          · subst e; exact he
          · exact hno.out j (by omega)
        go_wp2_with fail
        go_round
        case rel => exact ⟨k + 1, by omega, by go_num, hno2⟩
        case measure => simp [intOf]; omega
    · obtain rfl : k = t.length := by omega
      have hd : decide (t.length < t.length) = false := by simp
      have hres := index_no hno.out
      have HR := Lib.hid hres
      clear hres
      go_wp2_with fail
      go_ret
      exact ⟨by rw [HR.out]; rfl, rfl⟩
end Go.Proofs.Yteadblkkbbhpjaa
