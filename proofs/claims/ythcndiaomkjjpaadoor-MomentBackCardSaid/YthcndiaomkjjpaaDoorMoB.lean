/- The moment layer's calendar, walked. -/
import Derived.Test.YthcndiaomkjjpaaDoorMoA
import Derived.Deep.DeepCutAuto
import Derived.Deep.CutBlock
set_option linter.unusedVariables false
namespace Go.Proofs.YthcndiaomkjjpaaDoor
open Go Go.RowKit
set_option maxHeartbeats 1000000 in
theorem long_any (y m : Int) (w : World) (hy0 : 1970 ≤ y) (hy1 : y ≤ 9999) (hm0 : 1 ≤ m) (hm1 : m ≤ 12) : Calls Tryd.prog 32 #[.int .i64 y, .int .i64 m] w fun e w' => e = .returned (.int .i64 (longI y m)) ∧ w = w' := by
  rcases (by omega : m = 2 ∨ (m = 4 ∨ m = 6 ∨ m = 9 ∨ m = 11) ∨ (m = 1 ∨ m = 3 ∨ m = 5 ∨ m = 7 ∨ m = 8 ∨ m = 10 ∨ m = 12)) with rfl | hm | hm
  · cases hl : leapB y
    · have hL : longI y 2 = 28 := by simp [longI, hl]
      have HL := Lib.hid hL
      have hn := (leapB_no y).1 hl
      clear hL hl
      by_cases h4 : y % 4 = 0
      · have t1 : (y % 4 == 0) = true := by simpa using h4
        have t2 : (y % 100 != 0) = false := by simp; omega
        have t3 : (y % 400 == 0) = false := by simp; omega
        have H4 := Lib.hid h4
        clear hn h4
        go_enter Tryd.func32, Tryd.ntmps32
        go_wp2_with fail
        go_ret
        exact ⟨by rw [HL.out]; rfl, rfl⟩
      · have t1 : (y % 4 == 0) = false := by simpa using h4
        clear hn h4
        go_enter Tryd.func32, Tryd.ntmps32
        go_wp2_with fail
        go_ret
        exact ⟨by rw [HL.out]; rfl, rfl⟩
    · have hL : longI y 2 = 29 := by simp [longI, hl]
      have HL := Lib.hid hL
      have hn := (leapB_iff y).1 hl
      clear hL hl
      have t1 : (y % 4 == 0) = true := by simpa using hn.1
      by_cases h1 : y % 100 = 0
      · have t2 : (y % 100 != 0) = false := by simp [h1]
        have t3 : (y % 400 == 0) = true := by simp; omega
        clear hn h1
        go_enter Tryd.func32, Tryd.ntmps32
        go_wp2_with fail
        go_ret
        exact ⟨by rw [HL.out]; rfl, rfl⟩
      · have t2 : (y % 100 != 0) = true := by simpa using h1
        clear hn h1
        go_enter Tryd.func32, Tryd.ntmps32
        go_wp2_with fail
        go_ret
        exact ⟨by rw [HL.out]; rfl, rfl⟩
  · have hL : longI y m = 30 := by unfold longI; rw [if_neg (by omega), if_pos (by omega)]
    have HL := Lib.hid hL
    clear hL
    rcases hm with rfl | rfl | rfl | rfl
    all_goals
      go_enter Tryd.func32, Tryd.ntmps32
      go_wp2_with fail
      go_ret
      exact ⟨by rw [HL.out]; rfl, rfl⟩
  · have hL : longI y m = 31 := by unfold longI; rw [if_neg (by omega), if_neg (by omega)]
    have HL := Lib.hid hL
    clear hL
    rcases hm with rfl | rfl | rfl | rfl | rfl | rfl | rfl
    all_goals
      go_enter Tryd.func32, Tryd.ntmps32
      go_wp2_with fail
      go_ret
      exact ⟨by rw [HL.out]; rfl, rfl⟩
/-- A moment's day, counted from March 1 of the year 0. -/
def zI (t : Int) : Int := t / 86400 + 719468
def okT (t : Int) : Prop := 0 ≤ t ∧ t ≤ 253402300799
set_option maxHeartbeats 1000000 in
theorem Date_no (t : Int) (w : World) (h : t < 0 ∨ 253402300799 < t) : Calls Tryd.prog 12 #[.int .i64 t] w fun e w' => e = .returned (.tuple #[.int .i64 0, .int .i64 0, .int .i64 0, .int .i64 1]) ∧ w = w' := by
  by_cases h0 : t < 0
  · have t1 : decide (t < 0) = true := by simpa using h0
    clear h
    go_enter Tryd.func12, Tryd.ntmps12
    go_wp2_with fail
    refine bodyPost_ret (v := .tuple #[.int .i64 0, .int .i64 0, .int .i64 0, .int .i64 1]) (by simp [results, Tryd.results12, go_sem]) rfl ⟨rfl, rfl⟩
  · have t1 : decide (t < 0) = false := by simpa using h0
    have h1 : 253402300799 < t := by omega
    have t2 : decide (253402300799 < t) = true := by simpa using h1
    clear h
    go_enter Tryd.func12, Tryd.ntmps12
    go_wp2_with fail
    refine bodyPost_ret (v := .tuple #[.int .i64 0, .int .i64 0, .int .i64 0, .int .i64 1]) (by simp [results, Tryd.results12, go_sem]) rfl ⟨rfl, rfl⟩
set_option maxHeartbeats 2000000 in
theorem Date_ok (t : Int) (w : World) (h0 : 0 ≤ t) (h1 : t ≤ 253402300799) : Calls Tryd.prog 12 #[.int .i64 t] w fun e w' => e = .returned (.tuple #[.int .i64 (civY (zI t)), .int .i64 (civM (zI t)), .int .i64 (civD (zI t)), .int .i64 0]) ∧ w = w' := by
  have t1 : decide (t < 0) = false := by simp; omega
  have t2 : decide (253402300799 < t) = false := by simp; omega
  have hz0 : 0 ≤ zI t := by unfold zI; omega
  have hz1 : zI t ≤ 3652364 := by unfold zI; omega
  have hzt : t / 86400 + 719468 = zI t := rfl
  obtain ⟨b1, b2, b3, b4, _⟩ := yq_ok (zI t % 146097) (by omega) (by omega)
  have hY : civY (zI t) = if (5 * rq (zI t % 146097) + 2) / 153 + 3 > 12 then 400 * (zI t / 146097) + yq (zI t % 146097) + 1 else 400 * (zI t / 146097) + yq (zI t % 146097) := rfl
  have hM : civM (zI t) = if (5 * rq (zI t % 146097) + 2) / 153 + 3 > 12 then (5 * rq (zI t % 146097) + 2) / 153 + 3 - 12 else (5 * rq (zI t % 146097) + 2) / 153 + 3 := rfl
  have hD : civD (zI t) = rq (zI t % 146097) - (153 * ((5 * rq (zI t % 146097) + 2) / 153) + 2) / 5 + 1 := rfl
  have hyq : (zI t % 146097 - zI t % 146097 / 1460 + zI t % 146097 / 36524 - zI t % 146097 / 146096) / 365 = yq (zI t % 146097) := rfl
  have hrq : zI t % 146097 - (365 * yq (zI t % 146097) + yq (zI t % 146097) / 4 - yq (zI t % 146097) / 100) = rq (zI t % 146097) := rfl
  generalize zI t = z at *
  generalize yq (z % 146097) = y at *
  generalize rq (z % 146097) = r at *
  obtain ⟨D, hD2⟩ : ∃ D, z % 146097 = D := ⟨_, rfl⟩
  have hDb : 0 ≤ D ∧ D < 146097 := by omega
  rw [hD2] at hyq hrq
  have HY := Lib.hid hY
  have HM := Lib.hid hM
  have HD := Lib.hid hD
  have HZT := Lib.hid hzt
  have HYQ := Lib.hid hyq
  have HRQ := Lib.hid hrq
  have HD2 := Lib.hid hD2
  clear hY hM hD hzt hyq hrq hD2
  go_enter Tryd.func12, Tryd.ntmps12
  go_upto_region 4 with (fail)
  try rw [HZT.out]
  clear t1 t2 h0 h1
  have hd2 := HD2.out
  go_upto_region 5 with (fail)
  try rw [HD2.out]
  clear hd2
  have hyq := HYQ.out
  go_upto_region 6 with (fail)
  try rw [HYQ.out]
  clear hyq
  have hrq := HRQ.out
  go_upto_region 7 with (fail)
  try rw [HRQ.out]
  clear hrq
  obtain ⟨mp, hmp⟩ : ∃ mp, (5 * r + 2) / 153 = mp := ⟨_, rfl⟩
  have hmb : 0 ≤ mp ∧ mp ≤ 11 := by omega
  obtain ⟨e, he⟩ : ∃ e, z / 146097 = e := ⟨_, rfl⟩
  have heb : 0 ≤ e ∧ e ≤ 25 := by omega
  have hrd : 0 ≤ r - (153 * mp + 2) / 5 ∧ r - (153 * mp + 2) / 5 ≤ 40 := by omega
  rw [hmp, he] at HY
  rw [hmp] at HM
  rw [hmp] at HD
  rw [he]
  have HMP := Lib.hid hmp
  clear he hmp
  have hmp2 := HMP.out
  go_upto_region 8 with (fail)
  try rw [HMP.out]
  clear hmp2
  by_cases hb : 12 < mp + 3
  · have t3 : decide (12 < mp + 3) = true := by simpa using hb
    have hY2 : civY z = 400 * e + y + 1 := by rw [HY.out, if_pos hb]
    have hM2 : civM z = mp + 3 - 12 := by rw [HM.out, if_pos hb]
    have HY2 := Lib.hid hY2
    have HM2 := Lib.hid hM2
    clear hY2 hM2
    go_wp2_with fail
    refine bodyPost_ret (v := .tuple #[.int .i64 (400 * e + y + 1), .int .i64 (mp + 3 - 12), .int .i64 (r - (153 * mp + 2) / 5 + 1), .int .i64 0]) (by simp [results, Tryd.results12, go_sem]) rfl ⟨by rw [HY2.out, HM2.out, HD.out], rfl⟩
  · have t3 : decide (12 < mp + 3) = false := by simpa using hb
    have hY2 : civY z = 400 * e + y := by rw [HY.out, if_neg hb]
    have hM2 : civM z = mp + 3 := by rw [HM.out, if_neg hb]
    have HY2 := Lib.hid hY2
    have HM2 := Lib.hid hM2
    clear hY2 hM2
    go_wp2_with fail
    refine bodyPost_ret (v := .tuple #[.int .i64 (400 * e + y), .int .i64 (mp + 3), .int .i64 (r - (153 * mp + 2) / 5 + 1), .int .i64 0]) (by simp [results, Tryd.results12, go_sem]) rfl ⟨by rw [HY2.out, HM2.out, HD.out], rfl⟩
/-- Is there such a day? -/
def vldB (Y m d : Int) : Bool := decide (1970 ≤ Y ∧ Y ≤ 9999 ∧ 1 ≤ m ∧ m ≤ 12 ∧ 1 ≤ d ∧ d ≤ longI Y m)
set_option maxHeartbeats 2000000 in
theorem From_ok (Y m d : Int) (w : World) (h : vldB Y m d = true) : Calls Tryd.prog 18 #[.int .i64 Y, .int .i64 m, .int .i64 d] w fun e w' => e = .returned (.tuple #[.int .i64 ((dayZ Y m d - 719468) * 86400), .int .i64 0]) ∧ w = w' := by
  have hv := of_decide_eq_true h
  obtain ⟨v1, v2, v3, v4, v5, v6⟩ := hv
  have hl31 : longI Y m ≤ 31 := by unfold longI; split <;> (try split) <;> omega
  have t1 : decide (Y < 1970) = false := by simp; omega
  have t2 : decide (9999 < Y) = false := by simp; omega
  have t3 : decide (m < 1) = false := by simp; omega
  have t4 : decide (12 < m) = false := by simp; omega
  have t5 : decide (d < 1) = false := by simp; omega
  have t6 : decide (longI Y m < d) = false := by simp; omega
  by_cases hm : m - 3 < 0
  · have t7 : decide (m - 3 < 0) = true := by simpa using hm
    have hz : dayZ Y m d = base (Y - 1) (m - 3 + 12) d := by unfold dayZ; rw [if_pos hm]
    have hbz : (Y - 1) / 400 * 146097 + (Y - 1) % 400 * 365 + (Y - 1) % 400 / 4 - (Y - 1) % 400 / 100 + (153 * (m - 3 + 12) + 2) / 5 + d - 1 = base (Y - 1) (m - 3 + 12) d := rfl
    have HZ := Lib.hid hz
    have HB := Lib.hid hbz
    clear hz hbz h
    go_enter Tryd.func18, Tryd.ntmps18
    go_wp2_with (go_at_call 32; refine (long_any _ _ _ v1 v2 v3 v4).mono ?_; rintro e w' ⟨rfl, rfl⟩)
    go_ret2
    exact ⟨by rw [HZ.out, ← HB.out]; rfl, rfl⟩
  · have t7 : decide (m - 3 < 0) = false := by simpa using hm
    have hz : dayZ Y m d = base Y (m - 3) d := by unfold dayZ; rw [if_neg hm]
    have hbz : Y / 400 * 146097 + Y % 400 * 365 + Y % 400 / 4 - Y % 400 / 100 + (153 * (m - 3) + 2) / 5 + d - 1 = base Y (m - 3) d := rfl
    have HZ := Lib.hid hz
    have HB := Lib.hid hbz
    clear hz hbz h
    go_enter Tryd.func18, Tryd.ntmps18
    go_wp2_with (go_at_call 32; refine (long_any _ _ _ v1 v2 v3 v4).mono ?_; rintro e w' ⟨rfl, rfl⟩)
    go_ret2
    exact ⟨by rw [HZ.out, ← HB.out]; rfl, rfl⟩
set_option maxHeartbeats 2000000 in
theorem From_no (Y m d : Int) (w : World) (h : vldB Y m d = false) : Calls Tryd.prog 18 #[.int .i64 Y, .int .i64 m, .int .i64 d] w fun e w' => e = .returned (.tuple #[.int .i64 0, .int .i64 1]) ∧ w = w' := by
  have hv := of_decide_eq_false h
  clear h
  by_cases h1 : Y < 1970
  · have t1 : decide (Y < 1970) = true := by simpa using h1
    clear hv
    go_enter Tryd.func18, Tryd.ntmps18
    go_wp2_with fail
    go_ret2
    exact ⟨rfl, rfl⟩
  have t1 : decide (Y < 1970) = false := by simpa using h1
  by_cases h2 : 9999 < Y
  · have t2 : decide (9999 < Y) = true := by simpa using h2
    clear hv
    go_enter Tryd.func18, Tryd.ntmps18
    go_wp2_with fail
    go_ret2
    exact ⟨rfl, rfl⟩
  have t2 : decide (9999 < Y) = false := by simpa using h2
  by_cases h3 : m < 1
  · have t3 : decide (m < 1) = true := by simpa using h3
    clear hv
    go_enter Tryd.func18, Tryd.ntmps18
    go_wp2_with fail
    go_ret2
    exact ⟨rfl, rfl⟩
  have t3 : decide (m < 1) = false := by simpa using h3
  by_cases h4 : 12 < m
  · have t4 : decide (12 < m) = true := by simpa using h4
    clear hv
    go_enter Tryd.func18, Tryd.ntmps18
    go_wp2_with fail
    go_ret2
    exact ⟨rfl, rfl⟩
  have t4 : decide (12 < m) = false := by simpa using h4
  by_cases h5 : d < 1
  · have t5 : decide (d < 1) = true := by simpa using h5
    clear hv
    go_enter Tryd.func18, Tryd.ntmps18
    go_wp2_with fail
    go_ret2
    exact ⟨rfl, rfl⟩
  have t5 : decide (d < 1) = false := by simpa using h5
  have h6 : longI Y m < d := by omega
  have t6 : decide (longI Y m < d) = true := by simpa using h6
  clear hv
  have v1 : 1970 ≤ Y := by omega
  have v2 : Y ≤ 9999 := by omega
  have v3 : 1 ≤ m := by omega
  have v4 : m ≤ 12 := by omega
  go_enter Tryd.func18, Tryd.ntmps18
  go_wp2_with (go_at_call 32; refine (long_any _ _ _ v1 v2 v3 v4).mono ?_; rintro e w' ⟨rfl, rfl⟩)
  go_ret2
  exact ⟨rfl, rfl⟩
end Go.Proofs.YthcndiaomkjjpaaDoor
