/- The calendar, plain: days counted from March, and year by year. -/
import Derived.Test.YthcndiaomkjjpaaDoorBase
set_option linter.unusedVariables false
namespace Go.Proofs.YthcndiaomkjjpaaDoor
def leapB (y : Int) : Bool := y % 4 == 0 && (y % 100 != 0 || y % 400 == 0)
theorem leapB_iff (y : Int) : leapB y = true ↔ y % 4 = 0 ∧ (y % 100 ≠ 0 ∨ y % 400 = 0) := by unfold leapB; simp
theorem leapB_no (y : Int) : leapB y = false ↔ ¬ (y % 4 = 0 ∧ (y % 100 ≠ 0 ∨ y % 400 = 0)) := by rw [← leapB_iff]; simp
/-- How many days a month has, a year. -/
def longI (y m : Int) : Int := if m = 2 then (if leapB y then 29 else 28) else if m = 4 ∨ m = 6 ∨ m = 9 ∨ m = 11 then 30 else 31
def yearI (y : Int) : Int := if leapB y then 366 else 365
theorem era1 (D y k c : Int) (h0 : 0 ≤ D) (h1 : D < 146097) (hc : c = D/1460) (hk : k = D/36524 - D/146096) (hy : y = (D - c + k)/365) :
    0 ≤ k ∧ k ≤ 3 ∧ 0 ≤ c ∧ c ≤ 100 ∧ -1 ≤ y - 4 * c ∧ y - 4*c ≤ 4 ∧ 0 ≤ y ∧ y ≤ 399 := by omega
theorem era2 (D y k c : Int) (h0 : 0 ≤ D) (h1 : D < 146097) (hc : c = D/1460) (hk : k = D/36524 - D/146096) (hy : y = (D - c + k)/365) :
    365*y + y/4 - y/100 ≤ D := by
  obtain ⟨a, b, e, f, g, h, i, j⟩ := era1 D y k c h0 h1 hc hk hy
  rcases (by omega : k = 0 ∨ k = 1 ∨ k = 2 ∨ k = 3) with rfl | rfl | rfl | rfl <;>
  rcases (by omega : y = 4*c - 1 ∨ y = 4 * c ∨ y = 4 * c + 1 ∨ y = 4 * c + 2 ∨ y = 4 * c + 3 ∨ y = 4 * c + 4) with e | e | e | e | e | e <;>
  omega
theorem era3 (D y k c : Int) (h0 : 0 ≤ D) (h1 : D < 146097) (hc : c = D/1460) (hk : k = D/36524 - D/146096) (hy : y = (D - c + k)/365) :
    D < 365*(y+1) + (y+1)/4 - (y+1)/100 ∨ D = 146096 ∧ y = 399:= by
  obtain ⟨a, b, e, f, g, h, i, j⟩ := era1 D y k c h0 h1 hc hk hy
  rcases (by omega : k = 0 ∨ k = 1 ∨ k = 2 ∨ k = 3) with rfl | rfl | rfl | rfl <;>
  rcases (by omega : y = 4*c - 1 ∨ y = 4 * c ∨ y = 4 * c + 1 ∨ y = 4 * c + 2 ∨ y = 4 * c + 3 ∨ y = 4 * c + 4) with e | e | e | e | e | e <;>
  omega
/-- The year within 400 years, by its day; the days into that year. -/
def yq (D : Int) : Int := (D - D/1460 + D/36524 - D/146096)/365
def rq (D : Int) : Int := D - (365 * yq D + yq D / 4 - yq D / 100)
theorem yq_ok (D : Int) (h0 : 0 ≤ D) (h1 : D < 146097) : 0 ≤ yq D ∧ yq D ≤ 399 ∧ 0 ≤ rq D ∧ rq D ≤ 365 ∧ (rq D = 365 → (yq D + 1) % 4 = 0 ∧ ((yq D + 1) % 100 ≠ 0 ∨ (yq D + 1) % 400 = 0)) := by
  have hy : yq D = (D - D/1460 + (D/36524 - D/146096))/365 := by unfold yq; congr 1; omega
  have e1 := era1 D (yq D) _ _ h0 h1 rfl rfl hy
  have e2 := era2 D (yq D) _ _ h0 h1 rfl rfl hy
  have e3 := era3 D (yq D) _ _ h0 h1 rfl rfl hy
  unfold rq
  generalize yq D = y at *
  refine ⟨e1.2.2.2.2.2.2.1, e1.2.2.2.2.2.2.2, by omega, by omega, fun h => ?_⟩
  clear e1 hy
  have q0 : y / 100 ≤ (y + 1) / 100 := by omega
  have q1 : (y + 1) / 4 ≤ y / 4 + 1 := by omega
  refine ⟨?_, ?_⟩
  · by_cases q : (y + 1) % 4 = 0
    · exact q
    · have : (y + 1) / 4 = y / 4 := by omega
      omega
  · by_cases q : (y + 1) % 100 = 0
    · right
      rcases e3 with e | e
      · have : (y + 1) / 100 = y / 100 + 1 := by omega
        omega
      · omega
    · left; exact q
def civD (z : Int) : Int := rq (z % 146097) - (153 * ((5 * rq (z % 146097) + 2) / 153) + 2) / 5 + 1
def civM (z : Int) : Int := if (5 * rq (z % 146097) + 2) / 153 + 3 > 12 then (5 * rq (z % 146097) + 2) / 153 + 3 - 12 else (5 * rq (z % 146097) + 2) / 153 + 3
def civY (z : Int) : Int := if (5 * rq (z % 146097) + 2) / 153 + 3 > 12 then 400 * (z / 146097) + yq (z % 146097) + 1 else 400 * (z / 146097) + yq (z % 146097)
/-- The day's number, counted from March 1 of the year 0. -/
def base (y mm d : Int) : Int := y/400*146097 + y%400*365 + y%400/4 - y%400/100 + (153*mm+2)/5 + d - 1
def dayZ (Y m d : Int) : Int := if m - 3 < 0 then base (Y - 1) (m - 3 + 12) d else base Y (m - 3) d
theorem civ_ok (z : Int) (hz : 0 ≤ z) : 1 ≤ civM z ∧ civM z ≤ 12 ∧ 1 ≤ civD z ∧ civD z ≤ longI (civY z) (civM z) ∧ dayZ (civY z) (civM z) (civD z) = z := by
  obtain ⟨h1, h2, h3, h4, h5⟩ := yq_ok (z % 146097) (by omega) (by omega)
  have hr : rq (z % 146097) = z % 146097 - (365 * yq (z % 146097) + yq (z % 146097) / 4 - yq (z % 146097) / 100) := rfl
  unfold civM civD civY
  generalize rq (z % 146097) = r at *
  generalize yq (z % 146097) = y at *
  obtain ⟨mp, hmp⟩ : ∃ mp, mp = (5 * r + 2) / 153 := ⟨_, rfl⟩
  rw [← hmp]
  have hm1 : 0 ≤ mp ∧ mp ≤ 11 := by omega
  have hbase : ∀ c d : Int, base (400 * (z / 146097) + y) mp d = (z / 146097) * 146097 + 365 * y + y / 4 - y / 100 + (153 * mp + 2) / 5 + d - 1 := by
    intro c d; unfold base
    rw [show (400 * (z / 146097) + y) / 400 = z / 146097 from by omega, show (400 * (z / 146097) + y) % 400 = y from by omega]; omega
  have hz2 : z = (z / 146097) * 146097 + z % 146097 := by omega
  by_cases hb : mp + 3 > 12
  · simp only [if_pos hb]
    refine ⟨by omega, by omega, by omega, ?_, ?_⟩
    · rcases (by omega : mp = 10 ∨ mp = 11) with e | e
      · unfold longI; rw [if_neg (by omega), if_neg (by omega)]; omega
      · unfold longI; rw [if_pos (by omega)]
        by_cases h29 : r = 365
        · have := h5 h29
          rw [if_pos ((leapB_iff _).2 (by omega))]; omega
        · split <;> omega
    · unfold dayZ
      rw [if_pos (by omega), show mp + 3 - 12 - 3 + 12 = mp from by omega, show 400 * (z / 146097) + y + 1 - 1 = 400 * (z / 146097) + y from by omega, hbase 0]
      omega
  · simp only [if_neg hb]
    refine ⟨by omega, by omega, by omega, ?_, ?_⟩
    · rcases (by omega : mp = 0 ∨ mp = 1 ∨ mp = 2 ∨ mp = 3 ∨ mp = 4 ∨ mp = 5 ∨ mp = 6 ∨ mp = 7 ∨ mp = 8 ∨ mp = 9) with e | e | e | e | e | e | e | e | e | e <;>
      (unfold longI; rw [if_neg (by omega)]; split <;> omega)
    · unfold dayZ
      rw [if_neg (by omega), show mp + 3 - 3 = mp from by omega, hbase 0]
      omega
/-- When a year begins. -/
def J (Y : Int) : Int := 365 * (Y - 1) + (Y - 1) / 4 - (Y - 1) / 100 + (Y - 1) / 400 + 306
theorem J_succ (Y : Int) : J (Y + 1) = J Y + yearI Y := by
  unfold J yearI
  by_cases h : leapB Y = true
  · rw [if_pos h]; have := (leapB_iff Y).1 h; omega
  · rw [if_neg h]
    have := (leapB_no Y).1 (by simpa using h)
    omega
theorem J_mono (a b : Int) (h : a < b) : J a + 365 ≤ J b := by unfold J; omega
/-- The days of the months ahead of month m. -/
def cumI (y : Int) : Nat → Int
  | 0 => 0
  | k + 1 => cumI y k + longI y (k + 1)
theorem base_J (y mm d : Int) : base y mm d = J (y + 1) - 306 + (153 * mm + 2) / 5 + d - 1 := by
  unfold base J
  omega
theorem dayZ_J (Y d : Int) (k : Nat) (hk : k < 12) : dayZ Y ((k : Int) + 1) d = J Y + cumI Y k + d - 1 := by
  have hJ := J_succ Y
  unfold yearI at hJ
  unfold dayZ
  rcases (by omega : k = 0 ∨ k = 1 ∨ k = 2 ∨ k = 3 ∨ k = 4 ∨ k = 5 ∨ k = 6 ∨ k = 7 ∨ k = 8 ∨ k = 9 ∨ k = 10 ∨ k = 11) with rfl | rfl | rfl | rfl | rfl | rfl | rfl | rfl | rfl | rfl | rfl | rfl
  all_goals
    simp only [cumI, longI]
    cases hl : leapB Y <;> simp [hl, base_J] at hJ ⊢ <;> omega
end Go.Proofs.YthcndiaomkjjpaaDoor
