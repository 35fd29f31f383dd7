/- Texts of this proof, laid into one: MoI, MoA, MoB, MoF, MoC, MoG, MoJ. -/
import Derived.Test.YtmmoenbmgcplkaaGreatDoorMy05
import Derived.Deep.DeepCutAuto
import Derived.Deep.CutBlock
import Derived.Test.YtmmoenbmgcplkaaGreatDoorShelf
import Derived.Lib.AppendIntMem
set_option linter.unusedVariables false
namespace Go.Proofs.YtmmoenbmgcplkaaGreatDoor
open Go Go.RowKit
def numK (l : List UInt8) (a : Nat) : Nat → Option Int
  | 0 => some 0
  | k + 1 => (numK l a k).bind fun n => if a + k < l.length ∧ 48 ≤ (gB l (a + k)).toNat ∧ (gB l (a + k)).toNat ≤ 57 then some (10 * n + ((gB l (a + k)).toNat - 48 : Int)) else none
theorem numK_none (l : List UInt8) (a k m : Nat) (h : numK l a k = none) (hm : k ≤ m) : numK l a m = none := by
  induction m with
  | zero => rw [show k = 0 from by omega] at h; exact h
  | succ m ih =>
    by_cases e : k = m + 1
    · rw [← e]; exact h
    · unfold numK; rw [ih (by omega)]; rfl
theorem numK_bd (l : List UInt8) (a k : Nat) (n : Int) (h : numK l a k = some n) : 0 ≤ n ∧ n < 10 ^ k := by
  induction k generalizing n with
  | zero => simp [numK] at h; subst h; decide
  | succ k ih =>
    unfold numK at h
    cases hk : numK l a k with
    | none => rw [hk] at h; cases h
    | some x =>
      rw [hk] at h
      simp only [Option.bind_some] at h
      split at h
      · next hc =>
        injection h with h
        have := ih x hk
        rw [Int.pow_succ]
        omega
      · cases h
theorem numK_step (l : List UInt8) (a k : Nat) (n : Int) (h : numK l a k = some n) (h1 : a + k < l.length) (h2 : 48 ≤ (gB l (a + k)).toNat) (h3 : (gB l (a + k)).toNat ≤ 57) : numK l a (k + 1) = some (10 * n + ((gB l (a + k)).toNat - 48 : Int)) := by
  unfold numK; rw [h]; simp only [Option.bind_some]; rw [if_pos ⟨h1, h2, h3⟩]
theorem numK_stop (l : List UInt8) (a k m : Nat) (hm : k < m) (h : ¬ (a + k < l.length ∧ 48 ≤ (gB l (a + k)).toNat ∧ (gB l (a + k)).toNat ≤ 57)) : numK l a m = none := by
  refine numK_none l a (k + 1) m ?_ hm
  unfold numK
  cases numK l a k with
  | none => rfl
  | some x => simp only [Option.bind_some]; rw [if_neg h]
set_option maxHeartbeats 4000000 in
theorem numR_nat (l : List UInt8) (a m : Nat) (w : World) (ha : a ≤ 1000) (hm : m ≤ 4) (hl : l.length ≤ 140737488355328) : Calls Tryz.prog 96 #[.string ⟨l.toArray⟩, .int .i64 (a : Int), .int .i64 (m : Int)] w fun e w' => e = .returned (.int .i64 ((numK l a m).getD (-1))) ∧ w = w' := by
  go_enter Tryz.func96, Tryz.ntmps96
  go_wp2_with fail
  go_loop [7, 8] (fun nv i => ∃ (k i0 : Nat) (n : Int), k ≤ m ∧ i0 = a + k ∧ i = .int .i64 (i0 : Int) ∧ nv = .int .i64 n ∧ Hid (numK l a k = some n) ∧ 0 ≤ n ∧ n ≤ 10000) (fun _ i => a + m - (intOf i).toNat)
  case atStart => exact ⟨0, a, 0, by omega, rfl, rfl, rfl, Lib.hid rfl, by omega, by omega⟩
  case round =>
    obtain ⟨k, i0, n, hk, hi0, rfl, rfl, hn, hn0, hn1⟩ := hrel
    by_cases hkm : k < m
    · have hd : decide ((i0 : Int) < (a : Int) + (m : Int)) = true := by simp; omega
      by_cases hin : i0 < l.length
      · have hd1 : decide (l.length ≤ i0) = false := by simp; omega
        have hd1b : decide (i0 < l.length) = true := by simp; omega
        by_cases hlo : (gB l i0).toNat < 48
        · have t1 : decide (((gB l i0).toNat : Int) < 48) = true := by simp; omega
          have hres : numK l a m = none := numK_stop l a k m hkm (by rw [← hi0]; omega)
          have HR := Lib.hid hres
          clear hres hlo hi0
          go_wp2_with fail
          go_ret
          exact ⟨by rw [HR.out]; rfl, rfl⟩
        · have t1 : decide (((gB l i0).toNat : Int) < 48) = false := by simp; omega
          by_cases hhi : 57 < (gB l i0).toNat
          · have t2 : decide (57 < ((gB l i0).toNat : Int)) = true := by simp; omega
            have hres : numK l a m = none := numK_stop l a k m hkm (by rw [← hi0]; omega)
            have HR := Lib.hid hres
            clear hres hlo hhi hi0
            go_wp2_with fail
            go_ret
            exact ⟨by rw [HR.out]; rfl, rfl⟩
          · have t2 : decide (57 < ((gB l i0).toNat : Int)) = false := by simp; omega
            have hs := numK_step l a k n hn.out (by omega) (by rw [← hi0]; omega) (by rw [← hi0]; omega)
            have hbd := numK_bd l a (k + 1) _ hs
            have hp : (10 : Int) ^ (k + 1) ≤ 10000 := by
              rcases (by omega : k = 0 ∨ k = 1 ∨ k = 2 ∨ k = 3) with rfl | rfl | rfl | rfl <;> decide
            rw [← hi0] at hs hbd
            have hlo2 : 48 ≤ ((gB l i0).toNat : Int) := by omega
            have hhi2 : ((gB l i0).toNat : Int) ≤ 57 := by omega
            have hb3 : 0 ≤ 10 * n + ((gB l i0).toNat : Int) - 48 ∧ 10 * n + ((gB l i0).toNat : Int) - 48 ≤ 10000 := by omega
            rw [show 10 * n + (((gB l i0).toNat : Int) - 48) = 10 * n + ((gB l i0).toNat : Int) - 48 from by omega] at hs
            have HS := Lib.hid hs
            have him : i0 < a + m := by omega
            have HI0 := Lib.hid hi0
            clear hs hbd hp hlo hhi hi0
            go_wp2_with fail
            go_round
            case rel => exact ⟨k + 1, i0 + 1, _, by omega, by rw [HI0.out]; omega, by go_num, rfl, HS, by omega, by omega⟩
            case measure => simp [intOf]; omega
      · have hd1 : decide (l.length ≤ i0) = true := by simp; omega
        have hres : numK l a m = none := numK_stop l a k m hkm (by rw [← hi0]; omega)
        have HR := Lib.hid hres
        clear hres hi0
        go_wp2_with fail
        go_ret
        exact ⟨by rw [HR.out]; rfl, rfl⟩
    · obtain rfl : k = m := by omega
      have hd : decide ((i0 : Int) < (a : Int) + (k : Int)) = false := by simp; omega
      have HN := hn
      clear hi0
      go_wp2_with fail
      go_ret
      exact ⟨by rw [HN.out]; rfl, rfl⟩
theorem numR_any (l : List UInt8) (a m : Int) (w : World) (ha0 : 0 ≤ a) (ha : a ≤ 1000) (hm0 : 0 ≤ m) (hm : m ≤ 4) (hl : l.length ≤ 140737488355328) : Calls Tryz.prog 96 #[.string ⟨l.toArray⟩, .int .i64 a, .int .i64 m] w fun e w' => e = .returned (.int .i64 ((numK l a.toNat m.toNat).getD (-1))) ∧ w = w' := by
  have h := numR_nat l a.toNat m.toNat w (by omega) (by omega) hl
  rwa [show ((a.toNat : Nat) : Int) = a from by omega, show ((m.toNat : Nat) : Int) = m from by omega] at h
def ReadAt (w : World) (g : Nat) (l : List UInt8) (b : Bool) : Prop := w.heap[g]? = some (.cells #[.string ⟨l.toArray⟩, .bool b] 232 (0, 0))
theorem ReadAt.c0 {w : World} {g : Nat} {l : List UInt8} {b : Bool} (h : ReadAt w g l b) : w.cell? ⟨g, 0, none⟩ = some (.string ⟨l.toArray⟩) := by rw [cell_of_row _ _ _ _ _ _ h]; rfl
theorem ReadAt.c1 {w : World} {g : Nat} {l : List UInt8} {b : Bool} (h : ReadAt w g l b) : w.cell? ⟨g, 1, none⟩ = some (.bool b) := by rw [cell_of_row _ _ _ _ _ _ h]; rfl
theorem ReadAt.f1 {w : World} {g : Nat} {l : List UInt8} {b : Bool} (h : ReadAt w g l b) : w.frozen? ⟨g, 1, none⟩ = false := frozen_of_row w g 1 _ _ h
def RdPost (w : World) (g : Nat) (l : List UInt8) (b : Bool) (r : Option Int) (e : Ending) (w' : World) : Prop :=
  e = .returned (.int .i64 (r.getD 0)) ∧ (if r.isSome then w' = w else w' = w.setCell ⟨g, 1, none⟩ (.bool false))
set_option maxHeartbeats 4000000 in
theorem numP_nat (l : List UInt8) (g : Nat) (b : Bool) (a m : Nat) (w : World) (hr : ReadAt w g l b) (ha : a ≤ 1000) (hm : m ≤ 4) (hl : l.length ≤ 140737488355328) : Calls Tryz.prog 170 #[.pointer (some ⟨g, 0, none⟩), .int .i64 (a : Int), .int .i64 (m : Int)] w (RdPost w g l b (numK l a m)) := by
  have c0 := hr.c0
  have c1 := hr.c1
  have f1 := hr.f1
  clear hr
  go_enter Tryz.func170, Tryz.ntmps170
  go_wp2_with fail
  go_loop [7, 8] (fun nv i => ∃ (k i0 : Nat) (n : Int), k ≤ m ∧ i0 = a + k ∧ i = .int .i64 (i0 : Int) ∧ nv = .int .i64 n ∧ Hid (numK l a k = some n) ∧ 0 ≤ n ∧ n ≤ 10000) (fun _ i => a + m - (intOf i).toNat)
  case atStart => exact ⟨0, a, 0, by omega, rfl, rfl, rfl, Lib.hid rfl, by omega, by omega⟩
  case round =>
    obtain ⟨k, i0, n, hk, hi0, rfl, rfl, hn, hn0, hn1⟩ := hrel
    by_cases hkm : k < m
    · have hd : decide ((i0 : Int) < (a : Int) + (m : Int)) = true := by simp; omega
      by_cases hin : i0 < l.length
      · have hd1 : decide (l.length ≤ i0) = false := by simp; omega
        have hd1b : decide (i0 < l.length) = true := by simp; omega
        by_cases hlo : (gB l i0).toNat < 48
        · have t1 : decide (((gB l i0).toNat : Int) < 48) = true := by simp; omega
          have hres : numK l a m = none := numK_stop l a k m hkm (by rw [← hi0]; omega)
          have HR := Lib.hid hres
          clear hres hlo hi0
          go_wp2_with fail
          go_ret
          exact ⟨by rw [HR.out]; rfl, by rw [HR.out]; rfl⟩
        · have t1 : decide (((gB l i0).toNat : Int) < 48) = false := by simp; omega
          by_cases hhi : 57 < (gB l i0).toNat
          · have t2 : decide (57 < ((gB l i0).toNat : Int)) = true := by simp; omega
            have hres : numK l a m = none := numK_stop l a k m hkm (by rw [← hi0]; omega)
            have HR := Lib.hid hres
            clear hres hlo hhi hi0
            go_wp2_with fail
            go_ret
            exact ⟨by rw [HR.out]; rfl, by rw [HR.out]; rfl⟩
          · have t2 : decide (57 < ((gB l i0).toNat : Int)) = false := by simp; omega
            have hs := numK_step l a k n hn.out (by omega) (by rw [← hi0]; omega) (by rw [← hi0]; omega)
            have hbd := numK_bd l a (k + 1) _ hs
            have hp : (10 : Int) ^ (k + 1) ≤ 10000 := by
              rcases (by omega : k = 0 ∨ k = 1 ∨ k = 2 ∨ k = 3) with rfl | rfl | rfl | rfl <;> decide
            rw [← hi0] at hs hbd
            have hlo2 : 48 ≤ ((gB l i0).toNat : Int) := by omega
            have hhi2 : ((gB l i0).toNat : Int) ≤ 57 := by omega
            have hb3 : 0 ≤ 10 * n + (((gB l i0).toNat : Int) - 48) ∧ 10 * n + (((gB l i0).toNat : Int) - 48) ≤ 10000 := by omega
            have HS := Lib.hid hs
            have him : i0 < a + m := by omega
            have HI0 := Lib.hid hi0
            clear hs hbd hp hlo hhi hi0
            go_wp2_with fail
            go_round
            case rel => exact ⟨k + 1, i0 + 1, _, by omega, by rw [HI0.out]; omega, by go_num, rfl, HS, by omega, by omega⟩
            case measure => simp [intOf]; omega
      · have hd1 : decide (l.length ≤ i0) = true := by simp; omega
        have hres : numK l a m = none := numK_stop l a k m hkm (by rw [← hi0]; omega)
        have HR := Lib.hid hres
        clear hres hi0
        go_wp2_with fail
        go_ret
        exact ⟨by rw [HR.out]; rfl, by rw [HR.out]; rfl⟩
    · obtain rfl : k = m := by omega
      have hd : decide ((i0 : Int) < (a : Int) + (k : Int)) = false := by simp; omega
      have HN := hn
      clear hi0
      go_wp2_with fail
      go_ret
      exact ⟨by rw [HN.out]; rfl, by rw [HN.out]; rfl⟩
end Go.Proofs.YtmmoenbmgcplkaaGreatDoor
set_option linter.unusedVariables false
namespace Go.Proofs.YtmmoenbmgcplkaaGreatDoor
def leapB (y : Int) : Bool := y % 4 == 0 && (y % 100 != 0 || y % 400 == 0)
theorem leapB_iff (y : Int) : leapB y = true ↔ y % 4 = 0 ∧ (y % 100 ≠ 0 ∨ y % 400 = 0) := by unfold leapB; simp
theorem leapB_no (y : Int) : leapB y = false ↔ ¬ (y % 4 = 0 ∧ (y % 100 ≠ 0 ∨ y % 400 = 0)) := by rw [← leapB_iff]; simp
def longI (y m : Int) : Int := if m = 2 then (if leapB y then 29 else 28) else if m = 4 ∨ m = 6 ∨ m = 9 ∨ m = 11 then 30 else 31
def yearI (y : Int) : Int := if leapB y then 366 else 365
theorem era1 (D y k c : Int) (h0 : 0 ≤ D) (h1 : D < 146097) (hc : c = D/1460) (hk : k = D/36524 - D/146096) (hy : y = (D - c + k)/365) :
    0 ≤ k ∧ k ≤ 3 ∧ 0 ≤ c ∧ c ≤ 100 ∧ -1 ≤ y - 4 * c ∧ y - 4*c ≤ 4 ∧ 0 ≤ y ∧ y ≤ 399 := by omega
theorem era2 (D y k c : Int) (h0 : 0 ≤ D) (h1 : D < 146097) (hc : c = D/1460) (hk : k = D/36524 - D/146096) (hy : y = (D - c + k)/365) :
    365*y + y/4 - y/100 ≤ D := by
  obtain ⟨a, b, e, f, g, h, i, j⟩ := era1 D y k c h0 h1 hc hk hy
  rcases (by omega : k = 0 ∨ k = 1 ∨ k = 2 ∨ k = 3) with rfl | rfl | rfl | rfl <;>
  rcases (by omega : y = 4*c - 1 ∨ y = 4 * c ∨ y = 4 * c + 1 ∨ y = 4 * c + 2 ∨ y = 4 * c + 3 ∨ y = 4 * c + 4) with e | e | e | e | e | e <;>
  omega
theorem era3 (D y k c : Int) (h0 : 0 ≤ D) (h1 : D < 146097) (hc : c = D/1460) (hk : k = D/36524 - D/146096) (hy : y = (D - c + k)/365) :
    D < 365*(y+1) + (y+1)/4 - (y+1)/100 ∨ D = 146096 ∧ y = 399:= by
  obtain ⟨a, b, e, f, g, h, i, j⟩ := era1 D y k c h0 h1 hc hk hy
  rcases (by omega : k = 0 ∨ k = 1 ∨ k = 2 ∨ k = 3) with rfl | rfl | rfl | rfl <;>
  rcases (by omega : y = 4*c - 1 ∨ y = 4 * c ∨ y = 4 * c + 1 ∨ y = 4 * c + 2 ∨ y = 4 * c + 3 ∨ y = 4 * c + 4) with e | e | e | e | e | e <;>
  omega
def yq (D : Int) : Int := (D - D/1460 + D/36524 - D/146096)/365
def rq (D : Int) : Int := D - (365 * yq D + yq D / 4 - yq D / 100)
theorem yq_ok (D : Int) (h0 : 0 ≤ D) (h1 : D < 146097) : 0 ≤ yq D ∧ yq D ≤ 399 ∧ 0 ≤ rq D ∧ rq D ≤ 365 ∧ (rq D = 365 → (yq D + 1) % 4 = 0 ∧ ((yq D + 1) % 100 ≠ 0 ∨ (yq D + 1) % 400 = 0)) := by
  have hy : yq D = (D - D/1460 + (D/36524 - D/146096))/365 := by unfold yq; congr 1; omega
  have e1 := era1 D (yq D) _ _ h0 h1 rfl rfl hy
  have e2 := era2 D (yq D) _ _ h0 h1 rfl rfl hy
  have e3 := era3 D (yq D) _ _ h0 h1 rfl rfl hy
  unfold rq
  generalize yq D = y at *
  refine ⟨e1.2.2.2.2.2.2.1, e1.2.2.2.2.2.2.2, by omega, by omega, fun h => ?_⟩
  clear e1 hy
  have q0 : y / 100 ≤ (y + 1) / 100 := by omega
  have q1 : (y + 1) / 4 ≤ y / 4 + 1 := by omega
  refine ⟨?_, ?_⟩
  · by_cases q : (y + 1) % 4 = 0
    · exact q
    · have : (y + 1) / 4 = y / 4 := by omega
      omega
  · by_cases q : (y + 1) % 100 = 0
    · right
      rcases e3 with e | e
      · have : (y + 1) / 100 = y / 100 + 1 := by omega
        omega
      · omega
    · left; exact q
def civD (z : Int) : Int := rq (z % 146097) - (153 * ((5 * rq (z % 146097) + 2) / 153) + 2) / 5 + 1
def civM (z : Int) : Int := if (5 * rq (z % 146097) + 2) / 153 + 3 > 12 then (5 * rq (z % 146097) + 2) / 153 + 3 - 12 else (5 * rq (z % 146097) + 2) / 153 + 3
def civY (z : Int) : Int := if (5 * rq (z % 146097) + 2) / 153 + 3 > 12 then 400 * (z / 146097) + yq (z % 146097) + 1 else 400 * (z / 146097) + yq (z % 146097)
def base (y mm d : Int) : Int := y/400*146097 + y%400*365 + y%400/4 - y%400/100 + (153*mm+2)/5 + d - 1
def dayZ (Y m d : Int) : Int := if m - 3 < 0 then base (Y - 1) (m - 3 + 12) d else base Y (m - 3) d
theorem civ_ok (z : Int) (hz : 0 ≤ z) : 1 ≤ civM z ∧ civM z ≤ 12 ∧ 1 ≤ civD z ∧ civD z ≤ longI (civY z) (civM z) ∧ dayZ (civY z) (civM z) (civD z) = z := by
  obtain ⟨h1, h2, h3, h4, h5⟩ := yq_ok (z % 146097) (by omega) (by omega)
  have hr : rq (z % 146097) = z % 146097 - (365 * yq (z % 146097) + yq (z % 146097) / 4 - yq (z % 146097) / 100) := rfl
  unfold civM civD civY
  generalize rq (z % 146097) = r at *
  generalize yq (z % 146097) = y at *
  obtain ⟨mp, hmp⟩ : ∃ mp, mp = (5 * r + 2) / 153 := ⟨_, rfl⟩
  rw [← hmp]
  have hm1 : 0 ≤ mp ∧ mp ≤ 11 := by omega
  have hbase : ∀ c d : Int, base (400 * (z / 146097) + y) mp d = (z / 146097) * 146097 + 365 * y + y / 4 - y / 100 + (153 * mp + 2) / 5 + d - 1 := by
    intro c d; unfold base
    rw [show (400 * (z / 146097) + y) / 400 = z / 146097 from by omega, show (400 * (z / 146097) + y) % 400 = y from by omega]; omega
  have hz2 : z = (z / 146097) * 146097 + z % 146097 := by omega
  by_cases hb : mp + 3 > 12
  · simp only [if_pos hb]
    refine ⟨by omega, by omega, by omega, ?_, ?_⟩
    · rcases (by omega : mp = 10 ∨ mp = 11) with e | e
      · unfold longI; rw [if_neg (by omega), if_neg (by omega)]; omega
      · unfold longI; rw [if_pos (by omega)]
        by_cases h29 : r = 365
        · have := h5 h29
          rw [if_pos ((leapB_iff _).2 (by omega))]; omega
        · split <;> omega
    · unfold dayZ
      rw [if_pos (by omega), show mp + 3 - 12 - 3 + 12 = mp from by omega, show 400 * (z / 146097) + y + 1 - 1 = 400 * (z / 146097) + y from by omega, hbase 0]
      omega
  · simp only [if_neg hb]
    refine ⟨by omega, by omega, by omega, ?_, ?_⟩
    · rcases (by omega : mp = 0 ∨ mp = 1 ∨ mp = 2 ∨ mp = 3 ∨ mp = 4 ∨ mp = 5 ∨ mp = 6 ∨ mp = 7 ∨ mp = 8 ∨ mp = 9) with e | e | e | e | e | e | e | e | e | e <;>
      (unfold longI; rw [if_neg (by omega)]; split <;> omega)
    · unfold dayZ
      rw [if_neg (by omega), show mp + 3 - 3 = mp from by omega, hbase 0]
      omega
def J (Y : Int) : Int := 365 * (Y - 1) + (Y - 1) / 4 - (Y - 1) / 100 + (Y - 1) / 400 + 306
theorem J_succ (Y : Int) : J (Y + 1) = J Y + yearI Y := by
  unfold J yearI
  by_cases h : leapB Y = true
  · rw [if_pos h]; have := (leapB_iff Y).1 h; omega
  · rw [if_neg h]
    have := (leapB_no Y).1 (by simpa using h)
    omega
theorem J_mono (a b : Int) (h : a < b) : J a + 365 ≤ J b := by unfold J; omega
def cumI (y : Int) : Nat → Int
  | 0 => 0
  | k + 1 => cumI y k + longI y (k + 1)
theorem base_J (y mm d : Int) : base y mm d = J (y + 1) - 306 + (153 * mm + 2) / 5 + d - 1 := by
  unfold base J
  omega
theorem dayZ_J (Y d : Int) (k : Nat) (hk : k < 12) : dayZ Y ((k : Int) + 1) d = J Y + cumI Y k + d - 1 := by
  have hJ := J_succ Y
  unfold yearI at hJ
  unfold dayZ
  rcases (by omega : k = 0 ∨ k = 1 ∨ k = 2 ∨ k = 3 ∨ k = 4 ∨ k = 5 ∨ k = 6 ∨ k = 7 ∨ k = 8 ∨ k = 9 ∨ k = 10 ∨ k = 11) with rfl | rfl | rfl | rfl | rfl | rfl | rfl | rfl | rfl | rfl | rfl | rfl
  all_goals
    simp only [cumI, longI]
    cases hl : leapB Y <;> simp [hl, base_J] at hJ ⊢ <;> omega
end Go.Proofs.YtmmoenbmgcplkaaGreatDoor
set_option linter.unusedVariables false
namespace Go.Proofs.YtmmoenbmgcplkaaGreatDoor
open Go Go.RowKit
set_option maxHeartbeats 1000000 in
theorem long_any (y m : Int) (w : World) (hy0 : 1970 ≤ y) (hy1 : y ≤ 9999) (hm0 : 1 ≤ m) (hm1 : m ≤ 12) : Calls Tryz.prog 195 #[.int .i64 y, .int .i64 m] w fun e w' => e = .returned (.int .i64 (longI y m)) ∧ w = w' := by
  rcases (by omega : m = 2 ∨ (m = 4 ∨ m = 6 ∨ m = 9 ∨ m = 11) ∨ (m = 1 ∨ m = 3 ∨ m = 5 ∨ m = 7 ∨ m = 8 ∨ m = 10 ∨ m = 12)) with rfl | hm | hm
  · cases hl : leapB y
    · have hL : longI y 2 = 28 := by simp [longI, hl]
      have HL := Lib.hid hL
      have hn := (leapB_no y).1 hl
      clear hL hl
      by_cases h4 : y % 4 = 0
      · have t1 : (y % 4 == 0) = true := by simpa using h4
        have t2 : (y % 100 != 0) = false := by simp; omega
        have t3 : (y % 400 == 0) = false := by simp; omega
        have H4 := Lib.hid h4
        clear hn h4
        go_enter Tryz.func195, Tryz.ntmps195
        go_wp2_with fail
        go_ret
        exact ⟨by rw [HL.out]; rfl, rfl⟩
      · have t1 : (y % 4 == 0) = false := by simpa using h4
        clear hn h4
        go_enter Tryz.func195, Tryz.ntmps195
        go_wp2_with fail
        go_ret
        exact ⟨by rw [HL.out]; rfl, rfl⟩
    · have hL : longI y 2 = 29 := by simp [longI, hl]
      have HL := Lib.hid hL
      have hn := (leapB_iff y).1 hl
      clear hL hl
      have t1 : (y % 4 == 0) = true := by simpa using hn.1
      by_cases h1 : y % 100 = 0
      · have t2 : (y % 100 != 0) = false := by simp [h1]
        have t3 : (y % 400 == 0) = true := by simp; omega
        clear hn h1
        go_enter Tryz.func195, Tryz.ntmps195
        go_wp2_with fail
        go_ret
        exact ⟨by rw [HL.out]; rfl, rfl⟩
      · have t2 : (y % 100 != 0) = true := by simpa using h1
        clear hn h1
        go_enter Tryz.func195, Tryz.ntmps195
        go_wp2_with fail
        go_ret
        exact ⟨by rw [HL.out]; rfl, rfl⟩
  · have hL : longI y m = 30 := by unfold longI; rw [if_neg (by omega), if_pos (by omega)]
    have HL := Lib.hid hL
    clear hL
    rcases hm with rfl | rfl | rfl | rfl
    all_goals
      go_enter Tryz.func195, Tryz.ntmps195
      go_wp2_with fail
      go_ret
      exact ⟨by rw [HL.out]; rfl, rfl⟩
  · have hL : longI y m = 31 := by unfold longI; rw [if_neg (by omega), if_neg (by omega)]
    have HL := Lib.hid hL
    clear hL
    rcases hm with rfl | rfl | rfl | rfl | rfl | rfl | rfl
    all_goals
      go_enter Tryz.func195, Tryz.ntmps195
      go_wp2_with fail
      go_ret
      exact ⟨by rw [HL.out]; rfl, rfl⟩
def zI (t : Int) : Int := t / 86400 + 719468
set_option maxHeartbeats 1000000 in
theorem Date_no (t : Int) (w : World) (h : t < 0 ∨ 253402300799 < t) : Calls Tryz.prog 56 #[.int .i64 t] w fun e w' => e = .returned (.tuple #[.int .i64 0, .int .i64 0, .int .i64 0, .int .i64 1]) ∧ w = w' := by
  by_cases h0 : t < 0
  · have t1 : decide (t < 0) = true := by simpa using h0
    clear h
    go_enter Tryz.func56, Tryz.ntmps56
    go_wp2_with fail
    refine bodyPost_ret (v := .tuple #[.int .i64 0, .int .i64 0, .int .i64 0, .int .i64 1]) (by simp [results, Tryz.results56, go_sem]) rfl ⟨rfl, rfl⟩
  · have t1 : decide (t < 0) = false := by simpa using h0
    have h1 : 253402300799 < t := by omega
    have t2 : decide (253402300799 < t) = true := by simpa using h1
    clear h
    go_enter Tryz.func56, Tryz.ntmps56
    go_wp2_with fail
    refine bodyPost_ret (v := .tuple #[.int .i64 0, .int .i64 0, .int .i64 0, .int .i64 1]) (by simp [results, Tryz.results56, go_sem]) rfl ⟨rfl, rfl⟩
set_option maxHeartbeats 2000000 in
theorem Date_ok (t : Int) (w : World) (h0 : 0 ≤ t) (h1 : t ≤ 253402300799) : Calls Tryz.prog 56 #[.int .i64 t] w fun e w' => e = .returned (.tuple #[.int .i64 (civY (zI t)), .int .i64 (civM (zI t)), .int .i64 (civD (zI t)), .int .i64 0]) ∧ w = w' := by
  have t1 : decide (t < 0) = false := by simp; omega
  have t2 : decide (253402300799 < t) = false := by simp; omega
  have hz0 : 0 ≤ zI t := by unfold zI; omega
  have hz1 : zI t ≤ 3652364 := by unfold zI; omega
  have hzt : t / 86400 + 719468 = zI t := rfl
  obtain ⟨b1, b2, b3, b4, _⟩ := yq_ok (zI t % 146097) (by omega) (by omega)
  have hY : civY (zI t) = if (5 * rq (zI t % 146097) + 2) / 153 + 3 > 12 then 400 * (zI t / 146097) + yq (zI t % 146097) + 1 else 400 * (zI t / 146097) + yq (zI t % 146097) := rfl
  have hM : civM (zI t) = if (5 * rq (zI t % 146097) + 2) / 153 + 3 > 12 then (5 * rq (zI t % 146097) + 2) / 153 + 3 - 12 else (5 * rq (zI t % 146097) + 2) / 153 + 3 := rfl
  have hD : civD (zI t) = rq (zI t % 146097) - (153 * ((5 * rq (zI t % 146097) + 2) / 153) + 2) / 5 + 1 := rfl
  have hyq : (zI t % 146097 - zI t % 146097 / 1460 + zI t % 146097 / 36524 - zI t % 146097 / 146096) / 365 = yq (zI t % 146097) := rfl
  have hrq : zI t % 146097 - (365 * yq (zI t % 146097) + yq (zI t % 146097) / 4 - yq (zI t % 146097) / 100) = rq (zI t % 146097) := rfl
  generalize zI t = z at *
  generalize yq (z % 146097) = y at *
  generalize rq (z % 146097) = r at *
  obtain ⟨D, hD2⟩ : ∃ D, z % 146097 = D := ⟨_, rfl⟩
  have hDb : 0 ≤ D ∧ D < 146097 := by omega
  rw [hD2] at hyq hrq
  have HY := Lib.hid hY
  have HM := Lib.hid hM
  have HD := Lib.hid hD
  have HZT := Lib.hid hzt
  have HYQ := Lib.hid hyq
  have HRQ := Lib.hid hrq
  have HD2 := Lib.hid hD2
  clear hY hM hD hzt hyq hrq hD2
  go_enter Tryz.func56, Tryz.ntmps56
  go_upto_region 4 with (fail)
  try rw [HZT.out]
  clear t1 t2 h0 h1
  have hd2 := HD2.out
  go_upto_region 5 with (fail)
  try rw [HD2.out]
  clear hd2
  have hyq := HYQ.out
  go_upto_region 6 with (fail)
  try rw [HYQ.out]
  clear hyq
  have hrq := HRQ.out
  go_upto_region 7 with (fail)
  try rw [HRQ.out]
  clear hrq
  obtain ⟨mp, hmp⟩ : ∃ mp, (5 * r + 2) / 153 = mp := ⟨_, rfl⟩
  have hmb : 0 ≤ mp ∧ mp ≤ 11 := by omega
  obtain ⟨e, he⟩ : ∃ e, z / 146097 = e := ⟨_, rfl⟩
  have heb : 0 ≤ e ∧ e ≤ 25 := by omega
  have hrd : 0 ≤ r - (153 * mp + 2) / 5 ∧ r - (153 * mp + 2) / 5 ≤ 40 := by omega
  rw [hmp, he] at HY
  rw [hmp] at HM
  rw [hmp] at HD
  rw [he]
  have HMP := Lib.hid hmp
  clear he hmp
  have hmp2 := HMP.out
  go_upto_region 8 with (fail)
  try rw [HMP.out]
  clear hmp2
  by_cases hb : 12 < mp + 3
  · have t3 : decide (12 < mp + 3) = true := by simpa using hb
    have hY2 : civY z = 400 * e + y + 1 := by rw [HY.out, if_pos hb]
    have hM2 : civM z = mp + 3 - 12 := by rw [HM.out, if_pos hb]
    have HY2 := Lib.hid hY2
    have HM2 := Lib.hid hM2
    clear hY2 hM2
    go_wp2_with fail
    refine bodyPost_ret (v := .tuple #[.int .i64 (400 * e + y + 1), .int .i64 (mp + 3 - 12), .int .i64 (r - (153 * mp + 2) / 5 + 1), .int .i64 0]) (by simp [results, Tryz.results56, go_sem]) rfl ⟨by rw [HY2.out, HM2.out, HD.out], rfl⟩
  · have t3 : decide (12 < mp + 3) = false := by simpa using hb
    have hY2 : civY z = 400 * e + y := by rw [HY.out, if_neg hb]
    have hM2 : civM z = mp + 3 := by rw [HM.out, if_neg hb]
    have HY2 := Lib.hid hY2
    have HM2 := Lib.hid hM2
    clear hY2 hM2
    go_wp2_with fail
    refine bodyPost_ret (v := .tuple #[.int .i64 (400 * e + y), .int .i64 (mp + 3), .int .i64 (r - (153 * mp + 2) / 5 + 1), .int .i64 0]) (by simp [results, Tryz.results56, go_sem]) rfl ⟨by rw [HY2.out, HM2.out, HD.out], rfl⟩
def vldB (Y m d : Int) : Bool := decide (1970 ≤ Y ∧ Y ≤ 9999 ∧ 1 ≤ m ∧ m ≤ 12 ∧ 1 ≤ d ∧ d ≤ longI Y m)
set_option maxHeartbeats 2000000 in
theorem From_ok (Y m d : Int) (w : World) (h : vldB Y m d = true) : Calls Tryz.prog 172 #[.int .i64 Y, .int .i64 m, .int .i64 d] w fun e w' => e = .returned (.tuple #[.int .i64 ((dayZ Y m d - 719468) * 86400), .int .i64 0]) ∧ w = w' := by
  have hv := of_decide_eq_true h
  obtain ⟨v1, v2, v3, v4, v5, v6⟩ := hv
  have hl31 : longI Y m ≤ 31 := by unfold longI; split <;> (try split) <;> omega
  have t1 : decide (Y < 1970) = false := by simp; omega
  have t2 : decide (9999 < Y) = false := by simp; omega
  have t3 : decide (m < 1) = false := by simp; omega
  have t4 : decide (12 < m) = false := by simp; omega
  have t5 : decide (d < 1) = false := by simp; omega
  have t6 : decide (longI Y m < d) = false := by simp; omega
  by_cases hm : m - 3 < 0
  · have t7 : decide (m - 3 < 0) = true := by simpa using hm
    have hz : dayZ Y m d = base (Y - 1) (m - 3 + 12) d := by unfold dayZ; rw [if_pos hm]
    have hbz : (Y - 1) / 400 * 146097 + (Y - 1) % 400 * 365 + (Y - 1) % 400 / 4 - (Y - 1) % 400 / 100 + (153 * (m - 3 + 12) + 2) / 5 + d - 1 = base (Y - 1) (m - 3 + 12) d := rfl
    have HZ := Lib.hid hz
    have HB := Lib.hid hbz
    clear hz hbz h
    go_enter Tryz.func172, Tryz.ntmps172
    go_wp2_with (go_at_call 195; refine (long_any _ _ _ v1 v2 v3 v4).mono ?_; rintro e w' ⟨rfl, rfl⟩)
    go_ret2
    exact ⟨by rw [HZ.out, ← HB.out]; rfl, rfl⟩
  · have t7 : decide (m - 3 < 0) = false := by simpa using hm
    have hz : dayZ Y m d = base Y (m - 3) d := by unfold dayZ; rw [if_neg hm]
    have hbz : Y / 400 * 146097 + Y % 400 * 365 + Y % 400 / 4 - Y % 400 / 100 + (153 * (m - 3) + 2) / 5 + d - 1 = base Y (m - 3) d := rfl
    have HZ := Lib.hid hz
    have HB := Lib.hid hbz
    clear hz hbz h
    go_enter Tryz.func172, Tryz.ntmps172
    go_wp2_with (go_at_call 195; refine (long_any _ _ _ v1 v2 v3 v4).mono ?_; rintro e w' ⟨rfl, rfl⟩)
    go_ret2
    exact ⟨by rw [HZ.out, ← HB.out]; rfl, rfl⟩
set_option maxHeartbeats 2000000 in
theorem From_no (Y m d : Int) (w : World) (h : vldB Y m d = false) : Calls Tryz.prog 172 #[.int .i64 Y, .int .i64 m, .int .i64 d] w fun e w' => e = .returned (.tuple #[.int .i64 0, .int .i64 1]) ∧ w = w' := by
  have hv := of_decide_eq_false h
  clear h
  by_cases h1 : Y < 1970
  · have t1 : decide (Y < 1970) = true := by simpa using h1
    clear hv
    go_enter Tryz.func172, Tryz.ntmps172
    go_wp2_with fail
    go_ret2
    exact ⟨rfl, rfl⟩
  have t1 : decide (Y < 1970) = false := by simpa using h1
  by_cases h2 : 9999 < Y
  · have t2 : decide (9999 < Y) = true := by simpa using h2
    clear hv
    go_enter Tryz.func172, Tryz.ntmps172
    go_wp2_with fail
    go_ret2
    exact ⟨rfl, rfl⟩
  have t2 : decide (9999 < Y) = false := by simpa using h2
  by_cases h3 : m < 1
  · have t3 : decide (m < 1) = true := by simpa using h3
    clear hv
    go_enter Tryz.func172, Tryz.ntmps172
    go_wp2_with fail
    go_ret2
    exact ⟨rfl, rfl⟩
  have t3 : decide (m < 1) = false := by simpa using h3
  by_cases h4 : 12 < m
  · have t4 : decide (12 < m) = true := by simpa using h4
    clear hv
    go_enter Tryz.func172, Tryz.ntmps172
    go_wp2_with fail
    go_ret2
    exact ⟨rfl, rfl⟩
  have t4 : decide (12 < m) = false := by simpa using h4
  by_cases h5 : d < 1
  · have t5 : decide (d < 1) = true := by simpa using h5
    clear hv
    go_enter Tryz.func172, Tryz.ntmps172
    go_wp2_with fail
    go_ret2
    exact ⟨rfl, rfl⟩
  have t5 : decide (d < 1) = false := by simpa using h5
  have h6 : longI Y m < d := by omega
  have t6 : decide (longI Y m < d) = true := by simpa using h6
  clear hv
  have v1 : 1970 ≤ Y := by omega
  have v2 : Y ≤ 9999 := by omega
  have v3 : 1 ≤ m := by omega
  have v4 : m ≤ 12 := by omega
  go_enter Tryz.func172, Tryz.ntmps172
  go_wp2_with (go_at_call 195; refine (long_any _ _ _ v1 v2 v3 v4).mono ?_; rintro e w' ⟨rfl, rfl⟩)
  go_ret2
  exact ⟨rfl, rfl⟩
end Go.Proofs.YtmmoenbmgcplkaaGreatDoor
set_option linter.unusedVariables false
namespace Go.Proofs.YtmmoenbmgcplkaaGreatDoor
open Go Go.RowKit
def Tab (w : World) : Prop := Lib.TabIs Tryz.prog w "internal/strconv.uint64pow10" .u64 Lib.pow10Tab
theorem Tab.q {w w' : World} (h : Tab w) (hq : Q w w') : Tab w' := Lib.tabBelow_of_tabIs h w' hq
def dc (n : Int) : UInt8 := byteOf (48 + n % 10)
def d2 (n : Int) : List UInt8 := [dc (n / 10), dc n]
def d4 (n : Int) : List UInt8 := [dc (n / 1000), dc (n / 100), dc (n / 10), dc n]
theorem dc_toNat (n : Int) : ((dc n).toNat : Int) = 48 + n % 10 := by unfold dc; rw [byteOf_int _ (by omega) (by omega)]
theorem dc_nat (u : Nat) : UInt8.ofNat (48 + u % 10) = dc (u : Int) := by unfold dc byteOf; rw [show (48 + (u : Int) % 10).toNat = 48 + u % 10 from by omega]
theorem dc_small (u : Nat) (h : u < 10) : UInt8.ofNat (48 + u) = dc (u : Int) := by rw [← dc_nat, Nat.mod_eq_of_lt h]
theorem itoa_4 (n : Int) (h0 : 1000 ≤ n) (h1 : n ≤ 9999) : Lib.itoa n = d4 n := by
  obtain ⟨u, rfl⟩ : ∃ u : Nat, n = u := ⟨n.toNat, by omega⟩
  unfold Lib.itoa
  rw [if_neg (by omega), Int.toNat_natCast, Lib.decDigits, dif_neg (by omega), Lib.decDigits, dif_neg (by omega), Lib.decDigits, dif_neg (by omega), Lib.decDigits, dif_pos (by omega), dc_small _ (by omega), dc_nat, dc_nat, dc_nat]
  unfold d4
  rw [show ((u / 10 / 10 / 10 : Nat) : Int) = (u : Int) / 1000 from by omega, show ((u / 10 / 10 : Nat) : Int) = (u : Int) / 100 from by omega, show ((u / 10 : Nat) : Int) = (u : Int) / 10 from by omega]
  rfl
theorem dec_1 (u : Nat) (h : u < 10) : Lib.decDigits u = [dc (u : Int)] := by rw [Lib.decDigits, dif_pos h, dc_small u h]
theorem dec_2 (u : Nat) (h0 : ¬ u < 10) (h1 : u < 100) : Lib.decDigits u = d2 (u : Int) := by
  rw [Lib.decDigits, dif_neg h0, Lib.decDigits, dif_pos (by omega), dc_small _ (by omega), dc_nat]
  unfold d2
  rw [show ((u / 10 : Nat) : Int) = (u : Int) / 10 from by omega]
  rfl
theorem itoa4 (n : Int) (w : World) (ht : Tab w) (h0 : 1000 ≤ n) (h1 : n ≤ 9999) : Calls Tryz.prog 97 #[.int .i64 n] w fun e w' => e = .returned (.string ⟨(d4 n).toArray⟩) ∧ Q w w' :=
  (Tryz.strconv_Itoa n (by omega) (by omega) w ht).mono fun e w' ⟨h, k, os, hw⟩ => ⟨by rw [h, itoa_4 n h0 h1], by rw [hw]; exact Lib.below_grow _ _ (Nat.le_refl _) _ _⟩
theorem rep_list (c : Nat) : Lib.repeatL (ByteArray.mk #[48]).data.toList c = List.replicate c (48 : UInt8) := by
  induction c with
  | zero => rfl
  | succ c ih => rw [Lib.repeatL, ih]; rfl
theorem rep0 (c : Int) (w : World) (h0 : 0 ≤ c) (hc : c ≤ 100) : Calls Tryz.prog 98 #[.string ⟨#[48]⟩, .int .i64 c] w fun e w' => e = .returned (.string ⟨(List.replicate c.toNat (48 : UInt8)).toArray⟩) ∧ Q w w' := by
  obtain ⟨u, rfl⟩ : ∃ u : Nat, c = u := ⟨c.toNat, by omega⟩
  exact (Tryz.strings_Repeat ⟨#[48]⟩ u w (by omega) (by simp [ByteArray.size]; omega)).mono fun e w' ⟨h, hb⟩ => ⟨by rw [h, rep_list, Int.toNat_natCast], hb⟩
set_option maxHeartbeats 1000000 in
theorem wide4 (n : Int) (w : World) (ht : Tab w) (h0 : 1000 ≤ n) (h1 : n ≤ 9999) : Calls Tryz.prog 58 #[.int .i64 n, .int .i64 4] w fun e w' => e = .returned (.string ⟨(d4 n).toArray⟩) ∧ Q w w' := by
  have hl : (d4 n).length = 4 := rfl
  have HT := Lib.hid ht
  clear ht
  go_enter Tryz.func58, Tryz.ntmps58
  go_wp2_with fail
  with_reducible refine (itoa4 n _ HT.out h0 h1).mono ?_
  rintro e w1 ⟨rfl, hq1⟩
  generalize hDD : d4 n = D at *
  have HDD := Lib.hid hDD
  clear hDD
  have HQ := Lib.hid hq1
  clear hq1
  go_wp2_with fail
  with_reducible refine (rep0 _ _ (by omega) (by omega)).mono ?_
  rintro e w2 ⟨rfl, hq2⟩
  have HQ2 := Lib.hid (HQ.out.trans hq2)
  clear hq2 HQ
  rw [show List.replicate (0 : Int).toNat (48 : UInt8) = [] from rfl]
  go_wp2_with fail
  go_ret
  exact ⟨by rw [HDD.out]; rfl, HQ2.out⟩
theorem itoa2 (n : Int) (w : World) (h0 : 0 ≤ n) (h1 : n < 100) : Calls Tryz.prog 97 #[.int .i64 n] w fun e w' => e = .returned (.string ⟨(if n < 10 then [dc n] else d2 n).toArray⟩) ∧ w = w' := by
  obtain ⟨u, rfl⟩ : ∃ u : Nat, n = u := ⟨n.toNat, by omega⟩
  refine (Tryz.strconv_Itoa_small u (by omega) w).mono fun e w' ⟨h, hw⟩ => ⟨?_, hw.symm⟩
  rw [h]
  by_cases h10 : u < 10
  · rw [if_pos (by omega), dec_1 u h10]
  · rw [if_neg (by omega), dec_2 u h10 (by omega)]
set_option maxHeartbeats 1000000 in
theorem wide2 (n : Int) (w : World) (h0 : 0 ≤ n) (h1 : n < 100) : Calls Tryz.prog 58 #[.int .i64 n, .int .i64 2] w fun e w' => e = .returned (.string ⟨(d2 n).toArray⟩) ∧ Q w w' := by
  have hi := itoa2 n w h0 h1
  by_cases h10 : n < 10
  · have hd : d2 n = [48, dc n] := by
      unfold d2
      rw [show n / 10 = 0 from by omega]
      rfl
    rw [if_pos h10] at hi
    have HD := Lib.hid hd
    have HI := Lib.hid hi
    clear hd hi
    go_enter Tryz.func58, Tryz.ntmps58
    go_wp2_with fail
    with_reducible refine HI.out.mono ?_
    rintro e w1 ⟨rfl, rfl⟩
    go_wp2_with fail
    with_reducible refine (rep0 _ _ (by omega) (by omega)).mono ?_
    rintro e w2 ⟨rfl, hq2⟩
    rw [show List.replicate (max (0 : Int) 1).toNat (48 : UInt8) = [48] from rfl]
    go_wp2_with fail
    go_ret
    exact ⟨by rw [HD.out]; rfl, hq2⟩
  · have hl : (d2 n).length = 2 := rfl
    rw [if_neg h10] at hi
    generalize hDD : d2 n = D at *
    have HDD := Lib.hid hDD
    have HI := Lib.hid hi
    clear hi hDD
    go_enter Tryz.func58, Tryz.ntmps58
    go_wp2_with fail
    with_reducible refine HI.out.mono ?_
    rintro e w1 ⟨rfl, rfl⟩
    go_wp2_with fail
    with_reducible refine (rep0 _ _ (by omega) (by omega)).mono ?_
    rintro e w2 ⟨rfl, hq2⟩
    rw [show List.replicate (0 : Int).toNat (48 : UInt8) = [] from rfl]
    go_wp2_with fail
    go_ret
    exact ⟨rfl, hq2⟩
theorem two_any (n : Int) (w : World) (h0 : 0 ≤ n) (h1 : n < 100) : Calls Tryz.prog 59 #[.int .i64 n] w fun e w' => e = .returned (.string ⟨(d2 n).toArray⟩) ∧ Q w w' := by
  go_enter Tryz.func59, Tryz.ntmps59
  go_wp2_with fail
  with_reducible refine (wide2 n _ h0 h1).mono ?_
  rintro e w1 ⟨rfl, hq⟩
  go_wp2_with fail
  go_ret
  exact ⟨rfl, hq⟩
theorem clock_any (t : Int) (w : World) (h0 : 0 ≤ t) (h1 : t ≤ 253402300799) : Calls Tryz.prog 57 #[.int .i64 t] w fun e w' => e = .returned (.tuple #[.int .i64 (t / 3600 % 24), .int .i64 (t / 60 % 60), .int .i64 (t % 60)]) ∧ w = w' := by
  go_enter Tryz.func57, Tryz.ntmps57
  go_wp2_with fail
  go_ret3
  exact ⟨rfl, rfl⟩
def digL (n : Int) : Nat → List UInt8
  | 0 => []
  | k + 1 => dc (n / 10 ^ k) :: digL n k
theorem digL_2 (n : Int) : digL n 2 = d2 n := by simp [digL, d2]
theorem digL_4 (n : Int) : digL n 4 = d4 n := by simp [digL, d4]
theorem digL_length (n : Int) (k : Nat) : (digL n k).length = k := by induction k with
  | zero => rfl
  | succ k ih => simp [digL, ih]
theorem dig_lit (n : Int) (h0 : 0 ≤ n) : sub [48, 49, 50, 51, 52, 53, 54, 55, 56, 57] (n % 10).toNat (n % 10 + 1).toNat = [dc n] := by
  unfold dc
  rcases (by omega : n % 10 = 0 ∨ n % 10 = 1 ∨ n % 10 = 2 ∨ n % 10 = 3 ∨ n % 10 = 4 ∨ n % 10 = 5 ∨ n % 10 = 6 ∨ n % 10 = 7 ∨ n % 10 = 8 ∨ n % 10 = 9) with e | e | e | e | e | e | e | e | e | e <;> rw [e] <;> rfl
set_option maxHeartbeats 2000000 in
theorem digits_any (n : Int) (many : Nat) (w : World) (h0 : 0 ≤ n) (h1 : n ≤ 1000000) (hm : many ≤ 10) : Calls Tryz.prog 91 #[.int .i64 n, .int .i64 (many : Int)] w fun e w' => e = .returned (.string ⟨(digL n many).toArray⟩) ∧ w = w' := by
  go_enter Tryz.func91, Tryz.ntmps91
  go_wp2_with fail
  go_loop [0, 5, 6] (fun nv s i => ∃ (k : Nat) (c : Int), k ≤ many ∧ i = .int .i64 k ∧ nv = .int .i64 c ∧ Hid (c = n / 10 ^ k) ∧ 0 ≤ c ∧ c ≤ 1000000 ∧ s = .string ⟨(digL n k).toArray⟩) (fun _ _ i => many - (intOf i).toNat)
  case atStart => exact ⟨0, n, by omega, rfl, rfl, Lib.hid (by simp), by omega, by omega, rfl⟩
  case round =>
    obtain ⟨k, c, hk, rfl, rfl, hc, hc0, hc1, rfl⟩ := hrel
    by_cases hlt : k < many
    · have hd : decide (k < many) = true := by simpa using hlt
      have hs : digL n (k + 1) = dc c :: digL n k := by rw [hc.out]; rfl
      have hl := digL_length n k
      have hdl := dig_lit c hc0
      have hc2 : c / 10 = n / 10 ^ (k + 1) := by rw [hc.out, Int.pow_succ, Int.ediv_ediv_of_nonneg (Int.pow_nonneg (by decide))]
      generalize digL n k = S at *
      have HS := Lib.hid hs
      have HC2 := Lib.hid hc2
      clear hs hc2
      go_wp2_with fail
      go_round
      case rel => exact ⟨k + 1, c / 10, by omega, by go_num, rfl, HC2, by omega, by omega, by rw [HS.out]⟩
      case measure => simp [intOf]; omega
    · obtain rfl : k = many := by omega
      have hd : decide (k < k) = false := by simp
      go_wp2_with fail
      go_ret
      exact ⟨rfl, rfl⟩
end Go.Proofs.YtmmoenbmgcplkaaGreatDoor
set_option linter.unusedVariables false
namespace Go.Proofs.YtmmoenbmgcplkaaGreatDoor
open Go Go.RowKit
set_option maxHeartbeats 1000000 in
theorem days0_any (y : Int) (w : World) (hy0 : 1970 ≤ y) (hy1 : y ≤ 10000) : Calls Tryz.prog 136 #[.int .i64 y, .int .i64 0] w fun e w' => e = .returned (.int .i64 (yearI y)) ∧ w = w' := by
  cases hl : leapB y
  · have hL : yearI y = 365 := by simp [yearI, hl]
    have HL := Lib.hid hL
    have hn := (leapB_no y).1 hl
    clear hL hl
    by_cases h4 : y % 4 = 0
    · have t1 : (y % 4 == 0) = true := by simpa using h4
      have t2 : (y % 100 != 0) = false := by simp; omega
      have t3 : (y % 400 == 0) = false := by simp; omega
      clear hn h4
      go_enter Tryz.func136, Tryz.ntmps136
      go_wp2_with fail
      go_ret
      exact ⟨by rw [HL.out]; rfl, rfl⟩
    · have t1 : (y % 4 == 0) = false := by simpa using h4
      clear hn h4
      go_enter Tryz.func136, Tryz.ntmps136
      go_wp2_with fail
      go_ret
      exact ⟨by rw [HL.out]; rfl, rfl⟩
  · have hL : yearI y = 366 := by simp [yearI, hl]
    have HL := Lib.hid hL
    have hn := (leapB_iff y).1 hl
    clear hL hl
    have t1 : (y % 4 == 0) = true := by simpa using hn.1
    by_cases h1 : y % 100 = 0
    · have t2 : (y % 100 != 0) = false := by simp [h1]
      have t3 : (y % 400 == 0) = true := by simp; omega
      clear hn h1
      go_enter Tryz.func136, Tryz.ntmps136
      go_wp2_with fail
      go_ret
      exact ⟨by rw [HL.out]; rfl, rfl⟩
    · have t2 : (y % 100 != 0) = true := by simpa using h1
      clear hn h1
      go_enter Tryz.func136, Tryz.ntmps136
      go_wp2_with fail
      go_ret
      exact ⟨by rw [HL.out]; rfl, rfl⟩
set_option maxHeartbeats 4000000 in
theorem daysM_any (y m : Int) (w : World) (hy0 : 1970 ≤ y) (hy1 : y ≤ 10000) (hm0 : 1 ≤ m) (hm1 : m ≤ 12) : Calls Tryz.prog 136 #[.int .i64 y, .int .i64 m] w fun e w' => e = .returned (.int .i64 (longI y m)) ∧ w = w' := by
  obtain ⟨L, hL⟩ : ∃ L, longI y m = L := ⟨_, rfl⟩
  have hcase : ((y % 4 == 0) = false ∧ leapB y = false ∧ True) ∨ ((y % 4 == 0) = true ∧ (y % 100 != 0) = true ∧ leapB y = true ∧ True) ∨ ((y % 4 == 0) = true ∧ (y % 100 != 0) = false ∧ (y % 400 == 0) = true ∧ leapB y = true) ∨ ((y % 4 == 0) = true ∧ (y % 100 != 0) = false ∧ (y % 400 == 0) = false ∧ leapB y = false) := by
    unfold leapB
    cases h1 : (y % 4 == 0) <;> cases h2 : (y % 100 != 0) <;> cases h3 : (y % 400 == 0) <;> simp
  rcases hcase with ⟨t1, hl, _⟩ | ⟨t1, t2, hl, _⟩ | ⟨t1, t2, t3, hl⟩ | ⟨t1, t2, t3, hl⟩
  all_goals
    have HLP := Lib.hid hl
    clear hl
    rcases (by omega : m = 2 ∨ m = 4 ∨ m = 6 ∨ m = 9 ∨ m = 11 ∨ m = 1 ∨ m = 3 ∨ m = 5 ∨ m = 7 ∨ m = 8 ∨ m = 10 ∨ m = 12) with rfl | rfl | rfl | rfl | rfl | rfl | rfl | rfl | rfl | rfl | rfl | rfl
    all_goals
      have hL2 : L = longI y _ := hL.symm
      simp only [longI, HLP.out] at hL2
      have HL := Lib.hid hL2
      clear hL2
      rw [hL]
      clear hL
      go_enter Tryz.func136, Tryz.ntmps136
      go_wp2_with fail
      go_ret
      exact ⟨by rw [HL.out]; rfl, rfl⟩
theorem long_bd (y m : Int) : 28 ≤ longI y m ∧ longI y m ≤ 31 := by unfold longI; split <;> (try split) <;> omega
theorem year_bd (y : Int) : 365 ≤ yearI y ∧ yearI y ≤ 366 := by unfold yearI; split <;> omega
theorem cum_mono (y : Int) (a b : Nat) (h : a ≤ b) : cumI y a ≤ cumI y b := by
  induction b with
  | zero => rw [show a = 0 from by omega]; exact Int.le_refl _
  | succ b ih =>
    by_cases e : a = b + 1
    · rw [e]; exact Int.le_refl _
    · have h1 := ih (by omega)
      have h2 := (long_bd y (b + 1)).1
      simp only [cumI]
      omega
theorem cum12 (y : Int) : cumI y 12 = yearI y := by
  simp only [cumI, longI, yearI]
  cases leapB y <;> rfl
structure Civ (z Y : Int) (k : Nat) (d : Int) : Prop where
  k12 : k < 12
  dlo : 1 ≤ d
  dhi : d ≤ longI Y ((k : Int) + 1)
  num : z = J Y + cumI Y k + d - 1
theorem Civ.lo {z Y d : Int} {k : Nat} (h : Civ z Y k d) : J Y ≤ z := by
  have h1 := cum_mono Y 0 k (by omega)
  have h2 := h.num
  have h3 := h.dlo
  simp only [cumI] at h1
  omega
theorem Civ.hi {z Y d : Int} {k : Nat} (h : Civ z Y k d) : z < J (Y + 1) := by
  have h1 := cum_mono Y (k + 1) 12 (by have := h.k12; omega)
  have h2 := h.num
  have h3 := h.dhi
  rw [J_succ, ← cum12]
  have h4 : cumI Y (k + 1) = cumI Y k + longI Y (k + 1) := rfl
  omega
theorem civ_is (z : Int) (hz : 0 ≤ z) : Civ z (civY z) (civM z - 1).toNat (civD z) ∧ (((civM z - 1).toNat : Nat) : Int) + 1 = civM z := by
  obtain ⟨h1, h2, h3, h4, h5⟩ := civ_ok z hz
  have hk : (((civM z - 1).toNat : Nat) : Int) + 1 = civM z := by omega
  have h6 := dayZ_J (civY z) (civD z) (civM z - 1).toNat (by omega)
  rw [hk, h5] at h6
  exact ⟨⟨by omega, h3, by rw [hk]; exact h4, h6⟩, hk⟩
theorem J_1970 : J 1970 = 719468 := by decide
theorem J_10000 : J 10000 = 3652365 := by decide
theorem civ_year (z : Int) (h0 : 719468 ≤ z) (h1 : z < 3652365) : 1970 ≤ civY z ∧ civY z ≤ 9999 := by
  have hc := (civ_is z (by omega)).1
  have hl := hc.lo
  have hh := hc.hi
  constructor
  · rcases Int.lt_or_le (civY z) 1970 with h | h
    · have : J (civY z + 1) ≤ J 1970 := by
        rcases Int.lt_or_eq_of_le (show civY z + 1 ≤ 1970 from by omega) with e | e
        · have := J_mono _ _ e; omega
        · rw [e]; exact Int.le_refl _
      rw [J_1970] at this; omega
    · exact h
  · rcases Int.lt_or_le 9999 (civY z) with h | h
    · have : J 10000 ≤ J (civY z) := by
        rcases Int.lt_or_eq_of_le (show 10000 ≤ civY z from by omega) with e | e
        · have := J_mono _ _ e; omega
        · rw [← e]; exact Int.le_refl _
      rw [J_10000] at this; omega
    · exact h
def WhenAt (w : World) (g : Nat) (y m d k h i s : Int) : Prop :=
  w.heap[g]? = some (.cells #[.int .i64 y, .int .i64 m, .int .i64 d, .int .i64 k, .int .i64 h, .int .i64 i, .int .i64 s] 133 (0, 0))
theorem WhenAt.cell {w : World} {g : Nat} {y m d k h i s : Int} (H : WhenAt w g y m d k h i s) (j : Nat) : w.cell? ⟨g, j, none⟩ = (#[.int .i64 y, .int .i64 m, .int .i64 d, .int .i64 k, .int .i64 h, .int .i64 i, .int .i64 s] : Array Value)[j]? := cell_of_row _ _ _ _ _ _ H
theorem WhenAt.frozen {w : World} {g : Nat} {y m d k h i s : Int} (H : WhenAt w g y m d k h i s) (j : Nat) : w.frozen? ⟨g, j, none⟩ = false := frozen_of_row w g j _ _ H
theorem WhenAt.set {w : World} {g : Nat} {y m d k h i s : Int} (H : WhenAt w g y m d k h i s) (j : Nat) (v : Value) : (w.setCell ⟨g, j, none⟩ v).heap[g]? = some (.cells ((#[.int .i64 y, .int .i64 m, .int .i64 d, .int .i64 k, .int .i64 h, .int .i64 i, .int .i64 s] : Array Value).setIfInBounds j v) 133 (0, 0)) := heap_setCell_same w g j _ _ _ H
theorem infoWhen : (Tryz.prog.info? 133).map (·.size) = some 7 := by kernel_rfl
def whenV (t : Int) : Array Value := #[.int .i64 (civY (zI t)), .int .i64 (civM (zI t)), .int .i64 (civD (zI t)), .int .i64 ((t / 86400 + 4) % 7), .int .i64 (t / 3600 % 24), .int .i64 (t / 60 % 60), .int .i64 (t % 60)]
end Go.Proofs.YtmmoenbmgcplkaaGreatDoor
set_option linter.unusedVariables false
namespace Go.Proofs.YtmmoenbmgcplkaaGreatDoor
open Go Go.RowKit
@[go_sem] theorem d4_length (n : Int) : (d4 n).length = 4 := rfl
@[go_sem] theorem d2_length (n : Int) : (d2 n).length = 2 := rfl
def hoI (t : Int) : Int := t / 3600 % 24
def miI (t : Int) : Int := t / 60 % 60
def seI (t : Int) : Int := t % 60
def stampL (t : Int) : List UInt8 := d4 (civY (zI t)) ++ d2 (civM (zI t)) ++ d2 (civD (zI t)) ++ [84] ++ d2 (hoI t) ++ d2 (miI t) ++ d2 (seI t) ++ [90]
theorem parts_bd (t : Int) (h0 : 0 ≤ t) (h1 : t ≤ 253402300799) : (1970 ≤ civY (zI t) ∧ civY (zI t) ≤ 9999) ∧ (1 ≤ civM (zI t) ∧ civM (zI t) ≤ 12) ∧ (1 ≤ civD (zI t) ∧ civD (zI t) ≤ 31) ∧ (0 ≤ hoI t ∧ hoI t < 24) ∧ (0 ≤ miI t ∧ miI t < 60) ∧ (0 ≤ seI t ∧ seI t < 60) := by
  have hz : 719468 ≤ zI t ∧ zI t < 3652365 := by unfold zI; omega
  have h := civ_ok (zI t) (by omega)
  have hl := (long_bd (civY (zI t)) (civM (zI t))).2
  refine ⟨civ_year _ hz.1 hz.2, ⟨h.1, h.2.1⟩, ⟨h.2.2.1, by omega⟩, ?_, ?_, ?_⟩
  · unfold hoI; omega
  · unfold miI; omega
  · unfold seI; omega
theorem Stamp_no (t : Int) (w : World) (h : t < 0 ∨ 253402300799 < t) : Calls Tryz.prog 24 #[.int .i64 t] w fun e w' => e = .returned (.tuple #[.string ⟨#[]⟩, .int .i64 1]) ∧ w = w' := by
  have H := Lib.hid h
  clear h
  go_enter Tryz.func24, Tryz.ntmps24
  go_wp2_with fail
  with_reducible refine (Date_no t _ H.out).mono ?_
  rintro e w1 ⟨rfl, rfl⟩
  go_wp2_with fail
  go_ret2
  exact ⟨rfl, rfl⟩
theorem clockP (t : Int) (w : World) (h0 : 0 ≤ t) (h1 : t ≤ 253402300799) : Calls Tryz.prog 57 #[.int .i64 t] w fun e w' => e = .returned (.tuple #[.int .i64 (hoI t), .int .i64 (miI t), .int .i64 (seI t)]) ∧ w = w' := clock_any t w h0 h1
set_option maxRecDepth 100000 in
set_option maxHeartbeats 4000000 in
theorem Stamp_ok (t : Int) (w : World) (ht : Tab w) (h0 : 0 ≤ t) (h1 : t ≤ 253402300799) : Calls Tryz.prog 24 #[.int .i64 t] w fun e w' => e = .returned (.tuple #[.string ⟨(stampL t).toArray⟩, .int .i64 0]) ∧ Q w w' := by
  obtain ⟨⟨y0, y1⟩, ⟨m0, m1⟩, ⟨d0, d1⟩, ⟨o0, o1⟩, ⟨i0, i1⟩, ⟨s0, s1⟩⟩ := parts_bd t h0 h1
  have hs : stampL t = d4 (civY (zI t)) ++ d2 (civM (zI t)) ++ d2 (civD (zI t)) ++ [84] ++ d2 (hoI t) ++ d2 (miI t) ++ d2 (seI t) ++ [90] := rfl
  have hd := Date_ok t w h0 h1
  have hc := clockP t w h0 h1
  generalize civY (zI t) = Y at *
  generalize civM (zI t) = M at *
  generalize civD (zI t) = D at *
  generalize hoI t = o at *
  generalize miI t = i at *
  generalize seI t = s at *
  have HT := Lib.hid ht
  have HS := Lib.hid hs
  have HD := Lib.hid hd
  have HC := Lib.hid hc
  clear ht hs hd hc
  go_enter Tryz.func24, Tryz.ntmps24
  go_wp2_with fail
  with_reducible refine HD.out.mono ?_
  rintro e w0 ⟨rfl, rfl⟩
  go_wp2_with fail
  with_reducible refine HC.out.mono ?_
  rintro e w0 ⟨rfl, rfl⟩
  go_wp2_with fail
  with_reducible refine (wide4 Y _ HT.out (by omega) (by omega)).mono ?_
  rintro e w1 ⟨rfl, hq1⟩
  have HQ1 := Lib.hid hq1
  clear hq1
  go_wp2_with fail
  with_reducible refine (two_any M _ (by omega) (by omega)).mono ?_
  rintro e w2 ⟨rfl, hq2⟩
  have HQ2 := Lib.hid (HQ1.out.trans hq2)
  clear hq2 HQ1
  go_wp2_with fail
  with_reducible refine (two_any D _ (by omega) (by omega)).mono ?_
  rintro e w3 ⟨rfl, hq3⟩
  have HQ3 := Lib.hid (HQ2.out.trans hq3)
  clear hq3 HQ2
  go_wp2_with fail
  with_reducible refine (two_any o _ (by omega) (by omega)).mono ?_
  rintro e w4 ⟨rfl, hq4⟩
  have HQ4 := Lib.hid (HQ3.out.trans hq4)
  clear hq4 HQ3
  go_wp2_with fail
  with_reducible refine (two_any i _ (by omega) (by omega)).mono ?_
  rintro e w5 ⟨rfl, hq5⟩
  have HQ5 := Lib.hid (HQ4.out.trans hq5)
  clear hq5 HQ4
  go_wp2_with fail
  with_reducible refine (two_any s _ (by omega) (by omega)).mono ?_
  rintro e w6 ⟨rfl, hq6⟩
  have HQ6 := Lib.hid (HQ5.out.trans hq6)
  clear hq6 HQ5
  go_wp2_with fail
  go_ret2
  exact ⟨by rw [HS.out]; simp, HQ6.out⟩
end Go.Proofs.YtmmoenbmgcplkaaGreatDoor
set_option linter.unusedVariables false
namespace Go.Proofs.YtmmoenbmgcplkaaGreatDoor
open Go Go.RowKit
structure RW (w0 : World) (g : Nat) (l : List UInt8) (st : Bool) where
  val : World
  gx : GX [g] w0 val
  rd : ∃ b, ReadAt val g l b ∧ (st = true → b = true)
  g0 : ReadAt w0 g l true
theorem RW.ne {w0 : World} {g : Nat} {l : List UInt8} (st : Bool) (h : ReadAt w0 g l true) : Nonempty (RW w0 g l st) := ⟨⟨w0, GX.refl _ _, ⟨true, h, fun _ => rfl⟩, h⟩⟩
theorem RW.c0 {w0 : World} {g : Nat} {l : List UInt8} {st : Bool} (m : RW w0 g l st) : m.val.cell? ⟨g, 0, none⟩ = some (.string ⟨l.toArray⟩) := by obtain ⟨b, h, _⟩ := m.rd; exact h.c0
theorem RW.cell {w0 : World} {g : Nat} {l : List UInt8} {st : Bool} (m : RW w0 g l st) {b o : Nat} {v : Value} (h : w0.cell? ⟨b, o, none⟩ = some v) (hb : b ≠ g) : m.val.cell? ⟨b, o, none⟩ = some v := by
  rw [World.cell?_of_block (m.gx.block b (lt_of_cell h) (by simpa using hb))]; exact h
def nv (l : List UInt8) (a k : Int) : Int := (numK l a.toNat k.toNat).getD 0
theorem nv_bd (l : List UInt8) (a k : Int) (hk : k = 2 ∨ k = 4) : 0 ≤ nv l a k ∧ nv l a k ≤ 9999 := by
  unfold nv
  cases h : numK l a.toNat k.toNat with
  | none => simp
  | some n =>
    have hb := numK_bd _ _ _ _ h
    simp only [Option.getD_some]
    have : (10 : Int) ^ k.toNat ≤ 10000 := by rcases hk with rfl | rfl <;> decide
    omega
theorem numP_r {w0 : World} {g : Nat} {l : List UInt8} {st : Bool} (m : RW w0 g l st) (a k : Int) (ha0 : 0 ≤ a) (ha : a ≤ 1000) (hk0 : 0 ≤ k) (hk : k ≤ 4) (hl : l.length ≤ 140737488355328)
    (hst : st = true → (numK l a.toNat k.toNat).isSome = true) :
    Calls Tryz.prog 170 #[.pointer (some ⟨g, 0, none⟩), .int .i64 a, .int .i64 k] m.val fun e w' => e = .returned (.int .i64 (nv l a k)) ∧ ∃ j : RW w0 g l st, w' = j.val := by
  obtain ⟨b, hr, hb⟩ := m.rd
  have h := numP_nat l g b a.toNat k.toNat m.val hr (by omega) (by omega) hl
  rw [show ((a.toNat : Nat) : Int) = a from by omega, show ((k.toNat : Nat) : Int) = k from by omega] at h
  refine h.mono fun e w' ⟨he, hw⟩ => ⟨he, ?_⟩
  cases hs : (numK l a.toNat k.toNat).isSome
  · rw [hs] at hw
    refine ⟨⟨w', ?_, ⟨false, ?_, fun h => ?_⟩, m.g0⟩, rfl⟩
    · rw [hw]; exact m.gx.set (by simp) _ _
    · rw [hw]; unfold ReadAt; rw [heap_setCell_same _ _ _ _ _ _ hr]; rfl
    · rw [hst h] at hs; cases hs
  · rw [hs] at hw
    exact ⟨m, hw⟩
theorem calls_r {P : Program} {f : FuncId} {args : Array Value} {w0 : World} {g : Nat} {l : List UInt8} {st : Bool} {m : RW w0 g l st} {v : Value}
    (h : Calls P f args m.val fun e w' => e = .returned v ∧ m.val = w') : Calls P f args m.val fun e w'' => e = .returned v ∧ ∃ k : RW w0 g l st, w'' = k.val :=
  h.mono fun _ _ ⟨he, hq⟩ => ⟨he, m, hq.symm⟩
def fromI (Y m d : Int) : Int := if vldB Y m d then (dayZ Y m d - 719468) * 86400 else 0
def fromE (Y m d : Int) : Int := if vldB Y m d then 0 else 1
theorem From_any (Y m d : Int) (w : World) : Calls Tryz.prog 172 #[.int .i64 Y, .int .i64 m, .int .i64 d] w fun e w' => e = .returned (.tuple #[.int .i64 (fromI Y m d), .int .i64 (fromE Y m d)]) ∧ w = w' := by
  cases h : vldB Y m d
  · unfold fromI fromE; rw [h]; exact From_no Y m d w h
  · unfold fromI fromE; rw [h]; exact From_ok Y m d w h
theorem RW.same {w0 : World} {g : Nat} {l : List UInt8} {st : Bool} (h : ReadAt w0 g l true) {x v : Value} : (∀ m : RW w0 g l st, m.val = m.val ∧ x = v) ↔ x = v := by
  constructor
  · intro h2; exact (h2 ⟨w0, GX.refl _ _, ⟨true, h, fun _ => rfl⟩, h⟩).2
  · intro h m; exact ⟨rfl, h⟩
theorem wp_region_r {P : Program} {id : Nat} {R : Exit → Act → World → Prop} {a : Act} {w0 : World} {g : Nat} {lt : List UInt8} {st : Bool} (m : RW w0 g lt st) {l : List Oper} (hm : P.follows .mixedOrders = true) (hB : Region.lexB .any l.toArray = true)
    (h : wpQuiet P l.toArray (fun w' => ∃ m : RW w0 g lt st, w' = m.val) (fun a' => ∀ w', (∃ m : RW w0 g lt st, w' = m.val) → R .normal a' w') l a) : (Code.region id l.toArray true).wp P R a m.val :=
  wp_region_quiet (C := fun w' => ∃ m : RW w0 g lt st, w' = m.val) hm hB ⟨⟨m.val.drew, m.gx.drew, by obtain ⟨b, h1, h2⟩ := m.rd; exact ⟨b, h1, h2⟩, m.g0⟩, rfl⟩ (by simpa using h)
end Go.Proofs.YtmmoenbmgcplkaaGreatDoor
