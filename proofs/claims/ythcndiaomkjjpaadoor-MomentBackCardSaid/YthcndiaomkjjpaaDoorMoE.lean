/- The reference's From. -/
import Derived.Test.YthcndiaomkjjpaaDoorMoC
set_option linter.unusedVariables false
namespace Go.Proofs.YthcndiaomkjjpaaDoor
open Go Go.RowKit
set_option maxHeartbeats 4000000 in
theorem FromR_ok (Y m d : Int) (w : World) (h : vldB Y m d = true) : Calls Tryd.prog 19 #[.int .i64 Y, .int .i64 m, .int .i64 d] w fun e w' => e = .returned (.int .i64 ((dayZ Y m d - 719468) * 86400)) ∧ w = w' := by
  have hv := of_decide_eq_true h
  obtain ⟨v1, v2, v3, v4, v5, v6⟩ := hv
  have hl31 := (long_bd Y m).2
  have t1 : decide (Y < 1970) = false := by simp; omega
  have t2 : decide (9999 < Y) = false := by simp; omega
  have t3 : decide (m < 1) = false := by simp; omega
  have t4 : decide (12 < m) = false := by simp; omega
  have t5 : decide (d < 1) = false := by simp; omega
  have t6 : decide (longI Y m < d) = false := by simp; omega
  obtain ⟨K, hK⟩ : ∃ K : Nat, m = (K : Int) + 1 := ⟨(m - 1).toNat, by omega⟩
  have hz := dayZ_J Y d K (by omega)
  rw [← hK] at hz
  have hJY : 719468 ≤ J Y ∧ J Y ≤ 3652365 := by
    constructor
    · rcases Int.lt_or_eq_of_le v1 with e | e
      · have := J_mono _ _ e; rw [J_1970] at this; omega
      · rw [← e, J_1970]; omega
    · have := J_mono Y 10000 (by omega); rw [J_10000] at this; omega
  have HZ := Lib.hid hz
  have HK := Lib.hid hK
  clear hz h hK
  go_enter Tryd.func19, Tryd.ntmps19
  go_upto_region 4 with (go_at_call 29; refine (daysM_any _ _ _ v1 (by omega) v3 v4).mono ?_; rintro e w' ⟨rfl, rfl⟩)
  clear t1 t2 t3 t4 t5 t6
  go_wp2_with fail
  go_loop [7, 8] (fun n y => ∃ y' c : Int, 1970 ≤ y' ∧ y' ≤ Y ∧ y = .int .i64 y' ∧ n = .int .i64 c ∧ Hid (c = d - 1 + (J y' - 719468)) ∧ 0 ≤ c ∧ c ≤ 4000000) (fun _ y => (Y - intOf y).toNat)
  case atStart => exact ⟨1970, d - 1, by omega, v1, rfl, rfl, Lib.hid (by rw [J_1970]; omega), by omega, by omega⟩
  case round =>
    obtain ⟨y, c, hy1, hy2, rfl, rfl, hc, hc0, hc1⟩ := hrel
    by_cases hlt : y < Y
    · have hd : decide (y < Y) = true := by simpa using hlt
      have hyb := year_bd y
      have hs : c + yearI y = d - 1 + (J (y + 1) - 719468) := by rw [hc.out, J_succ]; omega
      have hb : c + yearI y ≤ 4000000 := by
        rw [hs]
        have h3 : J (y + 1) ≤ J Y := by
          rcases Int.lt_or_eq_of_le (show y + 1 ≤ Y from by omega) with e | e
          · have := J_mono _ _ e; omega
          · rw [e]; exact Int.le_refl _
        omega
      have HS := Lib.hid hs
      clear hs
      generalize hL : yearI y = L at *
      have HL := Lib.hid hL
      clear hL
      go_wp2_with (go_at_call 29; refine (days0_any _ _ (by omega) (by omega)).mono ?_; rintro e w' ⟨rfl, rfl⟩; rw [HL.out])
      go_round
      case rel => exact ⟨y + 1, c + L, by omega, by omega, rfl, rfl, HS, by omega, by omega⟩
      case measure => simp [intOf]; omega
    · obtain rfl : y = Y := by omega
      have hd : decide (y < y) = false := by simp
      have hcc : c = d - 1 + (J y - 719468) := hc.out
      have HCC := Lib.hid hcc
      clear hcc hc
      go_wp2_with fail
      go_loop [7, 9] (fun n mv => ∃ (k : Nat) (c : Int), k ≤ K ∧ mv = .int .i64 ((k : Int) + 1) ∧ n = .int .i64 c ∧ Hid (c = d - 1 + (J y - 719468) + cumI y k) ∧ 0 ≤ c ∧ c ≤ 4000000 + 31 * k) (fun _ mv => (m - intOf mv).toNat)
      case atStart => exact ⟨0, c, by omega, by simp, rfl, Lib.hid (by rw [HCC.out]; simp [cumI]), by omega, by omega⟩
      case round =>
        obtain ⟨k, c2, hk, rfl, rfl, hc, hc0, hc1⟩ := hrel
        have hmK := HK.out
        have hlb := long_bd y ((k : Int) + 1)
        by_cases hlt : k < K
        · have hd2 : decide ((k : Int) + 1 < m) = true := by simp; omega
          have hs : c2 + longI y ((k : Int) + 1) = d - 1 + (J y - 719468) + cumI y (k + 1) := by
            have h5 : cumI y (k + 1) = cumI y k + longI y ((k : Int) + 1) := rfl
            rw [hc.out, h5]; omega
          have HS := Lib.hid hs
          have hk12 : (k : Int) + 1 ≤ 12 := by omega
          have hkm : (k : Int) + 1 < m := by omega
          clear hs hmK
          generalize hL : longI y ((k : Int) + 1) = L at *
          have HL := Lib.hid hL
          clear hL
          go_wp2_with (go_at_call 29; refine (daysM_any _ _ _ (by omega) (by omega) (by omega) (by omega)).mono ?_; rintro e w' ⟨rfl, rfl⟩; rw [HL.out])
          go_round
          case rel => exact ⟨k + 1, c2 + L, by omega, by go_num, rfl, HS, by omega, by omega⟩
          case measure => simp [intOf]; omega
        · obtain rfl : k = K := by omega
          have hd2 : decide ((k : Int) + 1 < m) = false := by simp; omega
          have hk12 : (k : Int) + 1 ≤ 12 := by omega
          clear hmK
          go_wp2_with fail
          go_ret
          exact ⟨ret_int (by rw [HZ.out]; have := hc.out; omega), rfl⟩
set_option maxHeartbeats 2000000 in
theorem FromR_no (Y m d : Int) (w : World) (h : vldB Y m d = false) : Calls Tryd.prog 19 #[.int .i64 Y, .int .i64 m, .int .i64 d] w fun e w' => e = .returned (.int .i64 (-1)) ∧ w = w' := by
  have hv := of_decide_eq_false h
  clear h
  by_cases h1 : Y < 1970
  · have t1 : decide (Y < 1970) = true := by simpa using h1
    clear hv
    go_enter Tryd.func19, Tryd.ntmps19
    go_wp2_with fail
    go_ret
    exact ⟨rfl, rfl⟩
  have t1 : decide (Y < 1970) = false := by simpa using h1
  by_cases h2 : 9999 < Y
  · have t2 : decide (9999 < Y) = true := by simpa using h2
    clear hv
    go_enter Tryd.func19, Tryd.ntmps19
    go_wp2_with fail
    go_ret
    exact ⟨rfl, rfl⟩
  have t2 : decide (9999 < Y) = false := by simpa using h2
  by_cases h3 : m < 1
  · have t3 : decide (m < 1) = true := by simpa using h3
    clear hv
    go_enter Tryd.func19, Tryd.ntmps19
    go_wp2_with fail
    go_ret
    exact ⟨rfl, rfl⟩
  have t3 : decide (m < 1) = false := by simpa using h3
  by_cases h4 : 12 < m
  · have t4 : decide (12 < m) = true := by simpa using h4
    clear hv
    go_enter Tryd.func19, Tryd.ntmps19
    go_wp2_with fail
    go_ret
    exact ⟨rfl, rfl⟩
  have t4 : decide (12 < m) = false := by simpa using h4
  by_cases h5 : d < 1
  · have t5 : decide (d < 1) = true := by simpa using h5
    clear hv
    go_enter Tryd.func19, Tryd.ntmps19
    go_wp2_with fail
    go_ret
    exact ⟨rfl, rfl⟩
  have t5 : decide (d < 1) = false := by simpa using h5
  have h6 : longI Y m < d := by omega
  have t6 : decide (longI Y m < d) = true := by simpa using h6
  clear hv
  have v1 : 1970 ≤ Y := by omega
  have v2 : Y ≤ 9999 := by omega
  have v3 : 1 ≤ m := by omega
  have v4 : m ≤ 12 := by omega
  go_enter Tryd.func19, Tryd.ntmps19
  go_wp2_with (go_at_call 29; refine (daysM_any _ _ _ v1 (by omega) v3 v4).mono ?_; rintro e w' ⟨rfl, rfl⟩)
  go_ret
  exact ⟨rfl, rfl⟩
end Go.Proofs.YthcndiaomkjjpaaDoor
