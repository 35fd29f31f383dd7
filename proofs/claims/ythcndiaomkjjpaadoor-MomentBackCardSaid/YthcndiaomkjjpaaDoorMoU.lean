/- The reference reads a text. -/
import Derived.Test.YthcndiaomkjjpaaDoorMoH
import Derived.Test.YthcndiaomkjjpaaDoorMoI
import Derived.Test.YthcndiaomkjjpaaDoorMoE
import Derived.Test.YthcndiaomkjjpaaDoorMoM
set_option linter.unusedVariables false
namespace Go.Proofs.YthcndiaomkjjpaaDoor
open Go Go.RowKit
/-- A number or -1. -/
def nr (l : List UInt8) (a k : Int) : Int := (numK l a.toNat k.toNat).getD (-1)
theorem nr_bd (l : List UInt8) (a k : Int) (hk : k = 2 ∨ k = 4) : -1 ≤ nr l a k ∧ nr l a k ≤ 9999 := by
  unfold nr
  cases h : numK l a.toNat k.toNat with
  | none => simp
  | some n =>
    have hb := numK_bd _ _ _ _ h
    simp only [Option.getD_some]
    have : (10 : Int) ^ k.toNat ≤ 10000 := by rcases hk with rfl | rfl <;> decide
    omega
theorem nr_nv (l : List UInt8) (a k : Int) (h : (numK l a.toNat k.toNat).isSome = true) : nr l a k = nv l a k := by
  unfold nr nv
  cases e : numK l a.toNat k.toNat with
  | none => rw [e] at h; cases h
  | some n => rfl
def okB (h i s : Int) : Bool := decide (0 ≤ h ∧ 0 ≤ i ∧ 0 ≤ s ∧ h ≤ 23 ∧ i ≤ 59 ∧ s ≤ 59)
def joinI (Y m d h i s : Int) : Int := if vldB Y m d && okB h i s then (dayZ Y m d - 719468) * 86400 + 3600 * h + 60 * i + s else -1
set_option maxHeartbeats 4000000 in
theorem join_any (Y m d h i s : Int) (w : World) : Calls Tryd.prog 34 #[.int .i64 Y, .int .i64 m, .int .i64 d, .int .i64 h, .int .i64 i, .int .i64 s] w fun e w' => e = .returned (.int .i64 (joinI Y m d h i s)) ∧ w = w' := by
  cases hv : vldB Y m d
  · have hj : joinI Y m d h i s = -1 := by unfold joinI; rw [hv]; rfl
    have HJ := Lib.hid hj
    have HV := Lib.hid hv
    clear hj hv
    go_enter Tryd.func34, Tryd.ntmps34
    go_wp2_with fail
    with_reducible refine (FromR_no _ _ _ _ HV.out).mono ?_
    rintro e w' ⟨rfl, rfl⟩
    go_wp2_with fail
    go_ret
    exact ⟨by rw [HJ.out]; rfl, rfl⟩
  · have hf : fromI Y m d = (dayZ Y m d - 719468) * 86400 := by unfold fromI; rw [if_pos hv]
    have hb := fromI_bd Y m d
    rw [hf] at hb
    have HV := Lib.hid hv
    clear hf
    generalize hF : (dayZ Y m d - 719468) * 86400 = F0 at *
    have HF := Lib.hid hF
    have t0 : decide (F0 < 0) = false := by simp; omega
    cases ho : okB h i s
    · have hj : joinI Y m d h i s = -1 := by unfold joinI; rw [hv, ho]; rfl
      have HJ := Lib.hid hj
      have hn := of_decide_eq_false ho
      clear hj hF hv ho
      by_cases h1 : h < 0
      · have t1 : decide (h < 0) = true := by simpa using h1
        clear hn
        go_enter Tryd.func34, Tryd.ntmps34
        go_wp2_with fail
        with_reducible refine (FromR_ok _ _ _ _ HV.out).mono ?_
        rintro e w' ⟨rfl, rfl⟩
        rw [HF.out]
        go_wp2_with fail
        go_ret
        exact ⟨by rw [HJ.out]; rfl, rfl⟩
      have t1 : decide (h < 0) = false := by simpa using h1
      by_cases h2 : i < 0
      · have t2 : decide (i < 0) = true := by simpa using h2
        clear hn
        go_enter Tryd.func34, Tryd.ntmps34
        go_wp2_with fail
        with_reducible refine (FromR_ok _ _ _ _ HV.out).mono ?_
        rintro e w' ⟨rfl, rfl⟩
        rw [HF.out]
        go_wp2_with fail
        go_ret
        exact ⟨by rw [HJ.out]; rfl, rfl⟩
      have t2 : decide (i < 0) = false := by simpa using h2
      by_cases h3 : s < 0
      · have t3 : decide (s < 0) = true := by simpa using h3
        clear hn
        go_enter Tryd.func34, Tryd.ntmps34
        go_wp2_with fail
        with_reducible refine (FromR_ok _ _ _ _ HV.out).mono ?_
        rintro e w' ⟨rfl, rfl⟩
        rw [HF.out]
        go_wp2_with fail
        go_ret
        exact ⟨by rw [HJ.out]; rfl, rfl⟩
      have t3 : decide (s < 0) = false := by simpa using h3
      by_cases h4 : 23 < h
      · have t4 : decide (23 < h) = true := by simpa using h4
        clear hn
        go_enter Tryd.func34, Tryd.ntmps34
        go_wp2_with fail
        with_reducible refine (FromR_ok _ _ _ _ HV.out).mono ?_
        rintro e w' ⟨rfl, rfl⟩
        rw [HF.out]
        go_wp2_with fail
        go_ret
        exact ⟨by rw [HJ.out]; rfl, rfl⟩
      have t4 : decide (23 < h) = false := by simpa using h4
      by_cases h5 : 59 < i
      · have t5 : decide (59 < i) = true := by simpa using h5
        clear hn
        go_enter Tryd.func34, Tryd.ntmps34
        go_wp2_with fail
        with_reducible refine (FromR_ok _ _ _ _ HV.out).mono ?_
        rintro e w' ⟨rfl, rfl⟩
        rw [HF.out]
        go_wp2_with fail
        go_ret
        exact ⟨by rw [HJ.out]; rfl, rfl⟩
      have t5 : decide (59 < i) = false := by simpa using h5
      have h6 : 59 < s := by omega
      have t6 : decide (59 < s) = true := by simpa using h6
      clear hn
      go_enter Tryd.func34, Tryd.ntmps34
      go_wp2_with fail
      with_reducible refine (FromR_ok _ _ _ _ HV.out).mono ?_
      rintro e w' ⟨rfl, rfl⟩
      rw [HF.out]
      go_wp2_with fail
      go_ret
      exact ⟨by rw [HJ.out]; rfl, rfl⟩
    · obtain ⟨o1, o2, o3, o4, o5, o6⟩ := of_decide_eq_true ho
      have hj : joinI Y m d h i s = F0 + 3600 * h + 60 * i + s := by unfold joinI; rw [hv, ho, hF]; rfl
      have HJ := Lib.hid hj
      have t1 : decide (h < 0) = false := by simp; omega
      have t2 : decide (i < 0) = false := by simp; omega
      have t3 : decide (s < 0) = false := by simp; omega
      have t4 : decide (23 < h) = false := by simp; omega
      have t5 : decide (59 < i) = false := by simp; omega
      have t6 : decide (59 < s) = false := by simp; omega
      clear hj hF hv ho
      go_enter Tryd.func34, Tryd.ntmps34
      go_wp2_with fail
      with_reducible refine (FromR_ok _ _ _ _ HV.out).mono ?_
      rintro e w' ⟨rfl, rfl⟩
      rw [HF.out]
      go_wp2_with fail
      go_ret
      exact ⟨by rw [HJ.out]; rfl, rfl⟩
/-- What the reference answers: the moment that is told so, or -1. -/
def RrSays (l : List UInt8) (TL : Int → List UInt8) (r : Int) : Prop :=
  ((0 ≤ r ∧ r ≤ 253402300799) ∧ TL r = l) ∨ (r = -1 ∧ ∀ t, 0 ≤ t → t ≤ 253402300799 → TL t ≠ l)
theorem joinI_bd (Y m d h i s : Int) : joinI Y m d h i s = -1 ∨ (0 ≤ joinI Y m d h i s ∧ joinI Y m d h i s ≤ 253402300799) := by
  unfold joinI
  by_cases hc : (vldB Y m d && okB h i s) = true
  · right
    rw [if_pos hc]
    simp only [Bool.and_eq_true] at hc
    obtain ⟨o1, o2, o3, o4, o5, o6⟩ := of_decide_eq_true hc.2
    have hf : fromI Y m d = (dayZ Y m d - 719468) * 86400 := by unfold fromI; rw [if_pos hc.1]
    have hb : 0 ≤ fromI Y m d ∧ fromI Y m d ≤ 253402300800 - 86400 := by
      unfold fromI
      rw [if_pos hc.1]
      obtain ⟨v1, v2, v3, v4, v5, v6⟩ := of_decide_eq_true hc.1
      have hz := dayZ_J Y d (m - 1).toNat (by omega)
      rw [show (((m - 1).toNat : Nat) : Int) + 1 = m from by omega] at hz
      have hcv : Civ (dayZ Y m d) Y (m - 1).toNat d := ⟨by omega, v5, by rw [show (((m - 1).toNat : Nat) : Int) + 1 = m from by omega]; exact v6, hz⟩
      have h1 := hcv.lo
      have h2 := hcv.hi
      have h3 : 719468 ≤ J Y := by
        rcases Int.lt_or_eq_of_le v1 with e | e
        · have := J_mono _ _ e; rw [J_1970] at this; omega
        · rw [← e, J_1970]; omega
      have h4 : J (Y + 1) ≤ 3652365 := by
        rcases Int.lt_or_eq_of_le (show Y + 1 ≤ 10000 from by omega) with e | e
        · have := J_mono _ _ e; rw [J_10000] at this; omega
        · rw [e, J_10000]; omega
      omega
    omega
  · left; rw [if_neg hc]
/-- The parts of a moment, joined, are it. -/
theorem join_civ (t : Int) (h0 : 0 ≤ t) (h1 : t ≤ 253402300799) : joinI (civY (zI t)) (civM (zI t)) (civD (zI t)) (hoI t) (miI t) (seI t) = t := by
  have hv := vld_civ t h0 h1
  obtain ⟨_, _, _, ⟨o0, o1⟩, ⟨i0, i1⟩, ⟨s0, s1⟩⟩ := parts_bd t h0 h1
  have ho : okB (hoI t) (miI t) (seI t) = true := decide_eq_true ⟨o0, i0, s0, by omega, by omega, by omega⟩
  have hf := (fromI_civ t h0 h1).1
  unfold fromI at hf
  rw [if_pos hv] at hf
  unfold joinI
  rw [hv, ho, hf]
  have := sum_back t h0
  simp only [Bool.and_self, if_true]
  omega
end Go.Proofs.YthcndiaomkjjpaaDoor
