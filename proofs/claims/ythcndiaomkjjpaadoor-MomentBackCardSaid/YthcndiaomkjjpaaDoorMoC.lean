/- The reference's calendar, walked. -/
import Derived.Test.YthcndiaomkjjpaaDoorMoB
import Derived.Test.YthcndiaomkjjpaaDoorGx
set_option linter.unusedVariables false
namespace Go.Proofs.YthcndiaomkjjpaaDoor
open Go Go.RowKit
set_option maxHeartbeats 1000000 in
theorem days0_any (y : Int) (w : World) (hy0 : 1970 ≤ y) (hy1 : y ≤ 10000) : Calls Tryd.prog 29 #[.int .i64 y, .int .i64 0] w fun e w' => e = .returned (.int .i64 (yearI y)) ∧ w = w' := by
  cases hl : leapB y
  · have hL : yearI y = 365 := by simp [yearI, hl]
    have HL := Lib.hid hL
    have hn := (leapB_no y).1 hl
    clear hL hl
    by_cases h4 : y % 4 = 0
    · have t1 : (y % 4 == 0) = true := by simpa using h4
      have t2 : (y % 100 != 0) = false := by simp; omega
      have t3 : (y % 400 == 0) = false := by simp; omega
      clear hn h4
      go_enter Tryd.func29, Tryd.ntmps29
      go_wp2_with fail
      go_ret
      exact ⟨by rw [HL.out]; rfl, rfl⟩
    · have t1 : (y % 4 == 0) = false := by simpa using h4
      clear hn h4
      go_enter Tryd.func29, Tryd.ntmps29
      go_wp2_with fail
      go_ret
      exact ⟨by rw [HL.out]; rfl, rfl⟩
  · have hL : yearI y = 366 := by simp [yearI, hl]
    have HL := Lib.hid hL
    have hn := (leapB_iff y).1 hl
    clear hL hl
    have t1 : (y % 4 == 0) = true := by simpa using hn.1
    by_cases h1 : y % 100 = 0
    · have t2 : (y % 100 != 0) = false := by simp [h1]
      have t3 : (y % 400 == 0) = true := by simp; omega
      clear hn h1
      go_enter Tryd.func29, Tryd.ntmps29
      go_wp2_with fail
      go_ret
      exact ⟨by rw [HL.out]; rfl, rfl⟩
    · have t2 : (y % 100 != 0) = true := by simpa using h1
      clear hn h1
      go_enter Tryd.func29, Tryd.ntmps29
      go_wp2_with fail
      go_ret
      exact ⟨by rw [HL.out]; rfl, rfl⟩
set_option maxHeartbeats 4000000 in
theorem daysM_any (y m : Int) (w : World) (hy0 : 1970 ≤ y) (hy1 : y ≤ 10000) (hm0 : 1 ≤ m) (hm1 : m ≤ 12) : Calls Tryd.prog 29 #[.int .i64 y, .int .i64 m] w fun e w' => e = .returned (.int .i64 (longI y m)) ∧ w = w' := by
  obtain ⟨L, hL⟩ : ∃ L, longI y m = L := ⟨_, rfl⟩
  have hcase : ((y % 4 == 0) = false ∧ leapB y = false ∧ True) ∨ ((y % 4 == 0) = true ∧ (y % 100 != 0) = true ∧ leapB y = true ∧ True) ∨ ((y % 4 == 0) = true ∧ (y % 100 != 0) = false ∧ (y % 400 == 0) = true ∧ leapB y = true) ∨ ((y % 4 == 0) = true ∧ (y % 100 != 0) = false ∧ (y % 400 == 0) = false ∧ leapB y = false) := by
    unfold leapB
    cases h1 : (y % 4 == 0) <;> cases h2 : (y % 100 != 0) <;> cases h3 : (y % 400 == 0) <;> simp
  rcases hcase with ⟨t1, hl, _⟩ | ⟨t1, t2, hl, _⟩ | ⟨t1, t2, t3, hl⟩ | ⟨t1, t2, t3, hl⟩
  all_goals
    have HLP := Lib.hid hl
    clear hl
    rcases (by omega : m = 2 ∨ m = 4 ∨ m = 6 ∨ m = 9 ∨ m = 11 ∨ m = 1 ∨ m = 3 ∨ m = 5 ∨ m = 7 ∨ m = 8 ∨ m = 10 ∨ m = 12) with rfl | rfl | rfl | rfl | rfl | rfl | rfl | rfl | rfl | rfl | rfl | rfl
    all_goals
      have hL2 : L = longI y _ := hL.symm
      simp only [longI, HLP.out] at hL2
      have HL := Lib.hid hL2
      clear hL2
      rw [hL]
      clear hL
      go_enter Tryd.func29, Tryd.ntmps29
      go_wp2_with fail
      go_ret
      exact ⟨by rw [HL.out]; rfl, rfl⟩
theorem long_bd (y m : Int) : 28 ≤ longI y m ∧ longI y m ≤ 31 := by unfold longI; split <;> (try split) <;> omega
theorem year_bd (y : Int) : 365 ≤ yearI y ∧ yearI y ≤ 366 := by unfold yearI; split <;> omega
theorem cum_mono (y : Int) (a b : Nat) (h : a ≤ b) : cumI y a ≤ cumI y b := by
  induction b with
  | zero => rw [show a = 0 from by omega]; exact Int.le_refl _
  | succ b ih =>
    by_cases e : a = b + 1
    · rw [e]; exact Int.le_refl _
    · have h1 := ih (by omega)
      have h2 := (long_bd y (b + 1)).1
      simp only [cumI]
      omega
theorem cum12 (y : Int) : cumI y 12 = yearI y := by
  simp only [cumI, longI, yearI]
  cases leapB y <;> rfl
/-- What the calendar says of a day z. -/
structure Civ (z Y : Int) (k : Nat) (d : Int) : Prop where
  k12 : k < 12
  dlo : 1 ≤ d
  dhi : d ≤ longI Y ((k : Int) + 1)
  num : z = J Y + cumI Y k + d - 1
theorem Civ.lo {z Y d : Int} {k : Nat} (h : Civ z Y k d) : J Y ≤ z := by
  have h1 := cum_mono Y 0 k (by omega)
  have h2 := h.num
  have h3 := h.dlo
  simp only [cumI] at h1
  omega
theorem Civ.hi {z Y d : Int} {k : Nat} (h : Civ z Y k d) : z < J (Y + 1) := by
  have h1 := cum_mono Y (k + 1) 12 (by have := h.k12; omega)
  have h2 := h.num
  have h3 := h.dhi
  rw [J_succ, ← cum12]
  have h4 : cumI Y (k + 1) = cumI Y k + longI Y (k + 1) := rfl
  omega
theorem civ_is (z : Int) (hz : 0 ≤ z) : Civ z (civY z) (civM z - 1).toNat (civD z) ∧ (((civM z - 1).toNat : Nat) : Int) + 1 = civM z := by
  obtain ⟨h1, h2, h3, h4, h5⟩ := civ_ok z hz
  have hk : (((civM z - 1).toNat : Nat) : Int) + 1 = civM z := by omega
  have h6 := dayZ_J (civY z) (civD z) (civM z - 1).toNat (by omega)
  rw [hk, h5] at h6
  exact ⟨⟨by omega, h3, by rw [hk]; exact h4, h6⟩, hk⟩
theorem J_1970 : J 1970 = 719468 := by decide
theorem J_10000 : J 10000 = 3652365 := by decide
theorem civ_year (z : Int) (h0 : 719468 ≤ z) (h1 : z < 3652365) : 1970 ≤ civY z ∧ civY z ≤ 9999 := by
  have hc := (civ_is z (by omega)).1
  have hl := hc.lo
  have hh := hc.hi
  constructor
  · rcases Int.lt_or_le (civY z) 1970 with h | h
    · have : J (civY z + 1) ≤ J 1970 := by
        rcases Int.lt_or_eq_of_le (show civY z + 1 ≤ 1970 from by omega) with e | e
        · have := J_mono _ _ e; omega
        · rw [e]; exact Int.le_refl _
      rw [J_1970] at this; omega
    · exact h
  · rcases Int.lt_or_le 9999 (civY z) with h | h
    · have : J 10000 ≤ J (civY z) := by
        rcases Int.lt_or_eq_of_le (show 10000 ≤ civY z from by omega) with e | e
        · have := J_mono _ _ e; omega
        · rw [← e]; exact Int.le_refl _
      rw [J_10000] at this; omega
    · exact h
/-- A When in a block of its own. -/
def WhenAt (w : World) (g : Nat) (y m d k h i s : Int) : Prop :=
  w.heap[g]? = some (.cells #[.int .i64 y, .int .i64 m, .int .i64 d, .int .i64 k, .int .i64 h, .int .i64 i, .int .i64 s] 31 (0, 0))
theorem WhenAt.cell {w : World} {g : Nat} {y m d k h i s : Int} (H : WhenAt w g y m d k h i s) (j : Nat) : w.cell? ⟨g, j, none⟩ = (#[.int .i64 y, .int .i64 m, .int .i64 d, .int .i64 k, .int .i64 h, .int .i64 i, .int .i64 s] : Array Value)[j]? := cell_of_row _ _ _ _ _ _ H
theorem WhenAt.frozen {w : World} {g : Nat} {y m d k h i s : Int} (H : WhenAt w g y m d k h i s) (j : Nat) : w.frozen? ⟨g, j, none⟩ = false := frozen_of_row w g j _ _ H
theorem WhenAt.set {w : World} {g : Nat} {y m d k h i s : Int} (H : WhenAt w g y m d k h i s) (j : Nat) (v : Value) : (w.setCell ⟨g, j, none⟩ v).heap[g]? = some (.cells ((#[.int .i64 y, .int .i64 m, .int .i64 d, .int .i64 k, .int .i64 h, .int .i64 i, .int .i64 s] : Array Value).setIfInBounds j v) 31 (0, 0)) := heap_setCell_same w g j _ _ _ H
theorem infoWhen : (Tryd.prog.info? 31).map (·.size) = some 7 := by kernel_rfl
def whenV (t : Int) : Array Value := #[.int .i64 (civY (zI t)), .int .i64 (civM (zI t)), .int .i64 (civD (zI t)), .int .i64 ((t / 86400 + 4) % 7), .int .i64 (t / 3600 % 24), .int .i64 (t / 60 % 60), .int .i64 (t % 60)]
end Go.Proofs.YthcndiaomkjjpaaDoor
