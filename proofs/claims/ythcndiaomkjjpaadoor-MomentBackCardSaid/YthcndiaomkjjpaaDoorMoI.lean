/- Numbers taken out of a text. -/
import Derived.Test.YthcndiaomkjjpaaDoorGx
import Derived.Deep.DeepCutAuto
import Derived.Deep.CutBlock
set_option linter.unusedVariables false
namespace Go.Proofs.YthcndiaomkjjpaaDoor
open Go Go.RowKit
/-- So many digits at a place: their number. -/
def numK (l : List UInt8) (a : Nat) : Nat → Option Int
  | 0 => some 0
  | k + 1 => (numK l a k).bind fun n => if a + k < l.length ∧ 48 ≤ (gB l (a + k)).toNat ∧ (gB l (a + k)).toNat ≤ 57 then some (10 * n + ((gB l (a + k)).toNat - 48 : Int)) else none
theorem numK_none (l : List UInt8) (a k m : Nat) (h : numK l a k = none) (hm : k ≤ m) : numK l a m = none := by
  induction m with
  | zero => rw [show k = 0 from by omega] at h; exact h
  | succ m ih =>
    by_cases e : k = m + 1
    · rw [← e]; exact h
    · unfold numK; rw [ih (by omega)]; rfl
theorem numK_bd (l : List UInt8) (a k : Nat) (n : Int) (h : numK l a k = some n) : 0 ≤ n ∧ n < 10 ^ k := by
  induction k generalizing n with
  | zero => simp [numK] at h; subst h; decide
  | succ k ih =>
    unfold numK at h
    cases hk : numK l a k with
    | none => rw [hk] at h; cases h
    | some x =>
      rw [hk] at h
      simp only [Option.bind_some] at h
      split at h
      · next hc =>
        injection h with h
        have := ih x hk
        rw [Int.pow_succ]
        omega
      · cases h
theorem numK_step (l : List UInt8) (a k : Nat) (n : Int) (h : numK l a k = some n) (h1 : a + k < l.length) (h2 : 48 ≤ (gB l (a + k)).toNat) (h3 : (gB l (a + k)).toNat ≤ 57) : numK l a (k + 1) = some (10 * n + ((gB l (a + k)).toNat - 48 : Int)) := by
  unfold numK; rw [h]; simp only [Option.bind_some]; rw [if_pos ⟨h1, h2, h3⟩]
theorem numK_stop (l : List UInt8) (a k m : Nat) (hm : k < m) (h : ¬ (a + k < l.length ∧ 48 ≤ (gB l (a + k)).toNat ∧ (gB l (a + k)).toNat ≤ 57)) : numK l a m = none := by
  refine numK_none l a (k + 1) m ?_ hm
  unfold numK
  cases numK l a k with
  | none => rfl
  | some x => simp only [Option.bind_some]; rw [if_neg h]
set_option maxHeartbeats 4000000 in
theorem numR_nat (l : List UInt8) (a m : Nat) (w : World) (ha : a ≤ 1000) (hm : m ≤ 4) (hl : l.length ≤ 140737488355328) : Calls Tryd.prog 35 #[.string ⟨l.toArray⟩, .int .i64 (a : Int), .int .i64 (m : Int)] w fun e w' => e = .returned (.int .i64 ((numK l a m).getD (-1))) ∧ w = w' := by
  go_enter Tryd.func35, Tryd.ntmps35
  go_wp2_with fail
  go_loop [7, 8] (fun nv i => ∃ (k i0 : Nat) (n : Int), k ≤ m ∧ i0 = a + k ∧ i = .int .i64 (i0 : Int) ∧ nv = .int .i64 n ∧ Hid (numK l a k = some n) ∧ 0 ≤ n ∧ n ≤ 10000) (fun _ i => a + m - (intOf i).toNat)
  case atStart => exact ⟨0, a, 0, by omega, rfl, rfl, rfl, Lib.hid rfl, by omega, by omega⟩
  case round =>
    obtain ⟨k, i0, n, hk, hi0, rfl, rfl, hn, hn0, hn1⟩ := hrel
    by_cases hkm : k < m
    · have hd : decide ((i0 : Int) < (a : Int) + (m : Int)) = true := by simp; omega
      by_cases hin : i0 < l.length
      · have hd1 : decide (l.length ≤ i0) = false := by simp; omega
        have hd1b : decide (i0 < l.length) = true := by simp; omega
        by_cases hlo : (gB l i0).toNat < 48
        · have t1 : decide (((gB l i0).toNat : Int) < 48) = true := by simp; omega
          have hres : numK l a m = none := numK_stop l a k m hkm (by rw [← hi0]; omega)
          have HR := Lib.hid hres
          clear hres hlo hi0
          go_wp2_with fail
          go_ret
          exact ⟨by rw [HR.out]; rfl, rfl⟩
        · have t1 : decide (((gB l i0).toNat : Int) < 48) = false := by simp; omega
          by_cases hhi : 57 < (gB l i0).toNat
          · have t2 : decide (57 < ((gB l i0).toNat : Int)) = true := by simp; omega
            have hres : numK l a m = none := numK_stop l a k m hkm (by rw [← hi0]; omega)
            have HR := Lib.hid hres
            clear hres hlo hhi hi0
            go_wp2_with fail
            go_ret
            exact ⟨by rw [HR.out]; rfl, rfl⟩
          · have t2 : decide (57 < ((gB l i0).toNat : Int)) = false := by simp; omega
            have hs := numK_step l a k n hn.out (by omega) (by rw [← hi0]; omega) (by rw [← hi0]; omega)
            have hbd := numK_bd l a (k + 1) _ hs
            have hp : (10 : Int) ^ (k + 1) ≤ 10000 := by
              rcases (by omega : k = 0 ∨ k = 1 ∨ k = 2 ∨ k = 3) with rfl | rfl | rfl | rfl <;> decide
            rw [← hi0] at hs hbd
            have hlo2 : 48 ≤ ((gB l i0).toNat : Int) := by omega
            have hhi2 : ((gB l i0).toNat : Int) ≤ 57 := by omega
            have hb3 : 0 ≤ 10 * n + ((gB l i0).toNat : Int) - 48 ∧ 10 * n + ((gB l i0).toNat : Int) - 48 ≤ 10000 := by omega
            rw [show 10 * n + (((gB l i0).toNat : Int) - 48) = 10 * n + ((gB l i0).toNat : Int) - 48 from by omega] at hs
            have HS := Lib.hid hs
            have him : i0 < a + m := by omega
            have HI0 := Lib.hid hi0
            clear hs hbd hp hlo hhi hi0
            go_wp2_with fail
            go_round
            case rel => exact ⟨k + 1, i0 + 1, _, by omega, by rw [HI0.out]; omega, by go_num, rfl, HS, by omega, by omega⟩
            case measure => simp [intOf]; omega
      · have hd1 : decide (l.length ≤ i0) = true := by simp; omega
        have hres : numK l a m = none := numK_stop l a k m hkm (by rw [← hi0]; omega)
        have HR := Lib.hid hres
        clear hres hi0
        go_wp2_with fail
        go_ret
        exact ⟨by rw [HR.out]; rfl, rfl⟩
    · obtain rfl : k = m := by omega
      have hd : decide ((i0 : Int) < (a : Int) + (k : Int)) = false := by simp; omega
      have HN := hn
      clear hi0
      go_wp2_with fail
      go_ret
      exact ⟨by rw [HN.out]; rfl, rfl⟩
theorem numR_any (l : List UInt8) (a m : Int) (w : World) (ha0 : 0 ≤ a) (ha : a ≤ 1000) (hm0 : 0 ≤ m) (hm : m ≤ 4) (hl : l.length ≤ 140737488355328) : Calls Tryd.prog 35 #[.string ⟨l.toArray⟩, .int .i64 a, .int .i64 m] w fun e w' => e = .returned (.int .i64 ((numK l a.toNat m.toNat).getD (-1))) ∧ w = w' := by
  have h := numR_nat l a.toNat m.toNat w (by omega) (by omega) hl
  rwa [show ((a.toNat : Nat) : Int) = a from by omega, show ((m.toNat : Nat) : Int) = m from by omega] at h
/-- A reader over a text. -/
def ReadAt (w : World) (g : Nat) (l : List UInt8) (b : Bool) : Prop := w.heap[g]? = some (.cells #[.string ⟨l.toArray⟩, .bool b] 53 (0, 0))
theorem ReadAt.c0 {w : World} {g : Nat} {l : List UInt8} {b : Bool} (h : ReadAt w g l b) : w.cell? ⟨g, 0, none⟩ = some (.string ⟨l.toArray⟩) := by rw [cell_of_row _ _ _ _ _ _ h]; rfl
theorem ReadAt.c1 {w : World} {g : Nat} {l : List UInt8} {b : Bool} (h : ReadAt w g l b) : w.cell? ⟨g, 1, none⟩ = some (.bool b) := by rw [cell_of_row _ _ _ _ _ _ h]; rfl
theorem ReadAt.f1 {w : World} {g : Nat} {l : List UInt8} {b : Bool} (h : ReadAt w g l b) : w.frozen? ⟨g, 1, none⟩ = false := frozen_of_row w g 1 _ _ h
/-- What a call may do to a reader: nothing, or tell that it has failed. -/
def RdPost (w : World) (g : Nat) (l : List UInt8) (b : Bool) (r : Option Int) (e : Ending) (w' : World) : Prop :=
  e = .returned (.int .i64 (r.getD 0)) ∧ (if r.isSome then w' = w else w' = w.setCell ⟨g, 1, none⟩ (.bool false))
set_option maxHeartbeats 4000000 in
theorem numP_nat (l : List UInt8) (g : Nat) (b : Bool) (a m : Nat) (w : World) (hr : ReadAt w g l b) (ha : a ≤ 1000) (hm : m ≤ 4) (hl : l.length ≤ 140737488355328) : Calls Tryd.prog 38 #[.pointer (some ⟨g, 0, none⟩), .int .i64 (a : Int), .int .i64 (m : Int)] w (RdPost w g l b (numK l a m)) := by
  have c0 := hr.c0
  have c1 := hr.c1
  have f1 := hr.f1
  clear hr
  go_enter Tryd.func38, Tryd.ntmps38
  go_wp2_with fail
  go_loop [7, 8] (fun nv i => ∃ (k i0 : Nat) (n : Int), k ≤ m ∧ i0 = a + k ∧ i = .int .i64 (i0 : Int) ∧ nv = .int .i64 n ∧ Hid (numK l a k = some n) ∧ 0 ≤ n ∧ n ≤ 10000) (fun _ i => a + m - (intOf i).toNat)
  case atStart => exact ⟨0, a, 0, by omega, rfl, rfl, rfl, Lib.hid rfl, by omega, by omega⟩
  case round =>
    obtain ⟨k, i0, n, hk, hi0, rfl, rfl, hn, hn0, hn1⟩ := hrel
    by_cases hkm : k < m
    · have hd : decide ((i0 : Int) < (a : Int) + (m : Int)) = true := by simp; omega
      by_cases hin : i0 < l.length
      · have hd1 : decide (l.length ≤ i0) = false := by simp; omega
        have hd1b : decide (i0 < l.length) = true := by simp; omega
        by_cases hlo : (gB l i0).toNat < 48
        · have t1 : decide (((gB l i0).toNat : Int) < 48) = true := by simp; omega
          have hres : numK l a m = none := numK_stop l a k m hkm (by rw [← hi0]; omega)
          have HR := Lib.hid hres
          clear hres hlo hi0
          go_wp2_with fail
          go_ret
          exact ⟨by rw [HR.out]; rfl, by rw [HR.out]; rfl⟩
        · have t1 : decide (((gB l i0).toNat : Int) < 48) = false := by simp; omega
          by_cases hhi : 57 < (gB l i0).toNat
          · have t2 : decide (57 < ((gB l i0).toNat : Int)) = true := by simp; omega
            have hres : numK l a m = none := numK_stop l a k m hkm (by rw [← hi0]; omega)
            have HR := Lib.hid hres
            clear hres hlo hhi hi0
            go_wp2_with fail
            go_ret
            exact ⟨by rw [HR.out]; rfl, by rw [HR.out]; rfl⟩
          · have t2 : decide (57 < ((gB l i0).toNat : Int)) = false := by simp; omega
            have hs := numK_step l a k n hn.out (by omega) (by rw [← hi0]; omega) (by rw [← hi0]; omega)
            have hbd := numK_bd l a (k + 1) _ hs
            have hp : (10 : Int) ^ (k + 1) ≤ 10000 := by
              rcases (by omega : k = 0 ∨ k = 1 ∨ k = 2 ∨ k = 3) with rfl | rfl | rfl | rfl <;> decide
            rw [← hi0] at hs hbd
            have hlo2 : 48 ≤ ((gB l i0).toNat : Int) := by omega
            have hhi2 : ((gB l i0).toNat : Int) ≤ 57 := by omega
            have hb3 : 0 ≤ 10 * n + (((gB l i0).toNat : Int) - 48) ∧ 10 * n + (((gB l i0).toNat : Int) - 48) ≤ 10000 := by omega
            have HS := Lib.hid hs
            have him : i0 < a + m := by omega
            have HI0 := Lib.hid hi0
            clear hs hbd hp hlo hhi hi0
            go_wp2_with fail
            go_round
            case rel => exact ⟨k + 1, i0 + 1, _, by omega, by rw [HI0.out]; omega, by go_num, rfl, HS, by omega, by omega⟩
            case measure => simp [intOf]; omega
      · have hd1 : decide (l.length ≤ i0) = true := by simp; omega
        have hres : numK l a m = none := numK_stop l a k m hkm (by rw [← hi0]; omega)
        have HR := Lib.hid hres
        clear hres hi0
        go_wp2_with fail
        go_ret
        exact ⟨by rw [HR.out]; rfl, by rw [HR.out]; rfl⟩
    · obtain rfl : k = m := by omega
      have hd : decide ((i0 : Int) < (a : Int) + (k : Int)) = false := by simp; omega
      have HN := hn
      clear hi0
      go_wp2_with fail
      go_ret
      exact ⟨by rw [HN.out]; rfl, by rw [HN.out]; rfl⟩
end Go.Proofs.YthcndiaomkjjpaaDoor
