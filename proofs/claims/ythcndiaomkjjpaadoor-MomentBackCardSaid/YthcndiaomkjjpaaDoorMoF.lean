/- Numbers as digits: the moment layer's and the reference's. -/
import Derived.Test.YthcndiaomkjjpaaDoorMoB
import Derived.Test.YthcndiaomkjjpaaDoorShelf
import Derived.Lib.AppendIntMem
set_option linter.unusedVariables false
namespace Go.Proofs.YthcndiaomkjjpaaDoor
open Go Go.RowKit
/-- The table that Itoa reads is as it was laid. -/
def Tab (w : World) : Prop := Lib.TabIs Tryd.prog w "internal/strconv.uint64pow10" .u64 Lib.pow10Tab
theorem Tab.q {w w' : World} (h : Tab w) (hq : Q w w') : Tab w' := Lib.tabBelow_of_tabIs h w' hq
/-- The last digit of a number. -/
def dc (n : Int) : UInt8 := byteOf (48 + n % 10)
def d2 (n : Int) : List UInt8 := [dc (n / 10), dc n]
def d4 (n : Int) : List UInt8 := [dc (n / 1000), dc (n / 100), dc (n / 10), dc n]
theorem dc_toNat (n : Int) : ((dc n).toNat : Int) = 48 + n % 10 := by unfold dc; rw [byteOf_int _ (by omega) (by omega)]
theorem dc_nat (u : Nat) : UInt8.ofNat (48 + u % 10) = dc (u : Int) := by unfold dc byteOf; rw [show (48 + (u : Int) % 10).toNat = 48 + u % 10 from by omega]
theorem dc_small (u : Nat) (h : u < 10) : UInt8.ofNat (48 + u) = dc (u : Int) := by rw [← dc_nat, Nat.mod_eq_of_lt h]
theorem itoa_4 (n : Int) (h0 : 1000 ≤ n) (h1 : n ≤ 9999) : Lib.itoa n = d4 n := by
  obtain ⟨u, rfl⟩ : ∃ u : Nat, n = u := ⟨n.toNat, by omega⟩
  unfold Lib.itoa
  rw [if_neg (by omega), Int.toNat_natCast, Lib.decDigits, dif_neg (by omega), Lib.decDigits, dif_neg (by omega), Lib.decDigits, dif_neg (by omega), Lib.decDigits, dif_pos (by omega), dc_small _ (by omega), dc_nat, dc_nat, dc_nat]
  unfold d4
  rw [show ((u / 10 / 10 / 10 : Nat) : Int) = (u : Int) / 1000 from by omega, show ((u / 10 / 10 : Nat) : Int) = (u : Int) / 100 from by omega, show ((u / 10 : Nat) : Int) = (u : Int) / 10 from by omega]
  rfl
theorem dec_1 (u : Nat) (h : u < 10) : Lib.decDigits u = [dc (u : Int)] := by rw [Lib.decDigits, dif_pos h, dc_small u h]
theorem dec_2 (u : Nat) (h0 : ¬ u < 10) (h1 : u < 100) : Lib.decDigits u = d2 (u : Int) := by
  rw [Lib.decDigits, dif_neg h0, Lib.decDigits, dif_pos (by omega), dc_small _ (by omega), dc_nat]
  unfold d2
  rw [show ((u / 10 : Nat) : Int) = (u : Int) / 10 from by omega]
  rfl
theorem itoa4 (n : Int) (w : World) (ht : Tab w) (h0 : 1000 ≤ n) (h1 : n ≤ 9999) : Calls Tryd.prog 36 #[.int .i64 n] w fun e w' => e = .returned (.string ⟨(d4 n).toArray⟩) ∧ Q w w' :=
  (Tryd.strconv_Itoa n (by omega) (by omega) w ht).mono fun e w' ⟨h, k, os, hw⟩ => ⟨by rw [h, itoa_4 n h0 h1], by rw [hw]; exact Lib.below_grow _ _ (Nat.le_refl _) _ _⟩
theorem rep_list (c : Nat) : Lib.repeatL (ByteArray.mk #[48]).data.toList c = List.replicate c (48 : UInt8) := by
  induction c with
  | zero => rfl
  | succ c ih => rw [Lib.repeatL, ih]; rfl
theorem rep0 (c : Int) (w : World) (h0 : 0 ≤ c) (hc : c ≤ 100) : Calls Tryd.prog 37 #[.string ⟨#[48]⟩, .int .i64 c] w fun e w' => e = .returned (.string ⟨(List.replicate c.toNat (48 : UInt8)).toArray⟩) ∧ Q w w' := by
  obtain ⟨u, rfl⟩ : ∃ u : Nat, c = u := ⟨c.toNat, by omega⟩
  exact (Tryd.strings_Repeat ⟨#[48]⟩ u w (by omega) (by simp [ByteArray.size]; omega)).mono fun e w' ⟨h, hb⟩ => ⟨by rw [h, rep_list, Int.toNat_natCast], hb⟩
set_option maxHeartbeats 1000000 in
theorem wide4 (n : Int) (w : World) (ht : Tab w) (h0 : 1000 ≤ n) (h1 : n ≤ 9999) : Calls Tryd.prog 27 #[.int .i64 n, .int .i64 4] w fun e w' => e = .returned (.string ⟨(d4 n).toArray⟩) ∧ Q w w' := by
  have hl : (d4 n).length = 4 := rfl
  have HT := Lib.hid ht
  clear ht
  go_enter Tryd.func27, Tryd.ntmps27
  go_wp2_with fail
  with_reducible refine (itoa4 n _ HT.out h0 h1).mono ?_
  rintro e w1 ⟨rfl, hq1⟩
  generalize hDD : d4 n = D at *
  have HDD := Lib.hid hDD
  clear hDD
  have HQ := Lib.hid hq1
  clear hq1
  go_wp2_with fail
  with_reducible refine (rep0 _ _ (by omega) (by omega)).mono ?_
  rintro e w2 ⟨rfl, hq2⟩
  have HQ2 := Lib.hid (HQ.out.trans hq2)
  clear hq2 HQ
  rw [show List.replicate (0 : Int).toNat (48 : UInt8) = [] from rfl]
  go_wp2_with fail
  go_ret
  exact ⟨by rw [HDD.out]; rfl, HQ2.out⟩
theorem itoa2 (n : Int) (w : World) (h0 : 0 ≤ n) (h1 : n < 100) : Calls Tryd.prog 36 #[.int .i64 n] w fun e w' => e = .returned (.string ⟨(if n < 10 then [dc n] else d2 n).toArray⟩) ∧ w = w' := by
  obtain ⟨u, rfl⟩ : ∃ u : Nat, n = u := ⟨n.toNat, by omega⟩
  refine (Tryd.strconv_Itoa_small u (by omega) w).mono fun e w' ⟨h, hw⟩ => ⟨?_, hw.symm⟩
  rw [h]
  by_cases h10 : u < 10
  · rw [if_pos (by omega), dec_1 u h10]
  · rw [if_neg (by omega), dec_2 u h10 (by omega)]
set_option maxHeartbeats 1000000 in
theorem wide2 (n : Int) (w : World) (h0 : 0 ≤ n) (h1 : n < 100) : Calls Tryd.prog 27 #[.int .i64 n, .int .i64 2] w fun e w' => e = .returned (.string ⟨(d2 n).toArray⟩) ∧ Q w w' := by
  have hi := itoa2 n w h0 h1
  by_cases h10 : n < 10
  · have hd : d2 n = [48, dc n] := by
      unfold d2
      rw [show n / 10 = 0 from by omega]
      rfl
    rw [if_pos h10] at hi
    have HD := Lib.hid hd
    have HI := Lib.hid hi
    clear hd hi
    go_enter Tryd.func27, Tryd.ntmps27
    go_wp2_with fail
    with_reducible refine HI.out.mono ?_
    rintro e w1 ⟨rfl, rfl⟩
    go_wp2_with fail
    with_reducible refine (rep0 _ _ (by omega) (by omega)).mono ?_
    rintro e w2 ⟨rfl, hq2⟩
    rw [show List.replicate (max (0 : Int) 1).toNat (48 : UInt8) = [48] from rfl]
    go_wp2_with fail
    go_ret
    exact ⟨by rw [HD.out]; rfl, hq2⟩
  · have hl : (d2 n).length = 2 := rfl
    rw [if_neg h10] at hi
    generalize hDD : d2 n = D at *
    have HDD := Lib.hid hDD
    have HI := Lib.hid hi
    clear hi hDD
    go_enter Tryd.func27, Tryd.ntmps27
    go_wp2_with fail
    with_reducible refine HI.out.mono ?_
    rintro e w1 ⟨rfl, rfl⟩
    go_wp2_with fail
    with_reducible refine (rep0 _ _ (by omega) (by omega)).mono ?_
    rintro e w2 ⟨rfl, hq2⟩
    rw [show List.replicate (0 : Int).toNat (48 : UInt8) = [] from rfl]
    go_wp2_with fail
    go_ret
    exact ⟨rfl, hq2⟩
theorem two_any (n : Int) (w : World) (h0 : 0 ≤ n) (h1 : n < 100) : Calls Tryd.prog 28 #[.int .i64 n] w fun e w' => e = .returned (.string ⟨(d2 n).toArray⟩) ∧ Q w w' := by
  go_enter Tryd.func28, Tryd.ntmps28
  go_wp2_with fail
  with_reducible refine (wide2 n _ h0 h1).mono ?_
  rintro e w1 ⟨rfl, hq⟩
  go_wp2_with fail
  go_ret
  exact ⟨rfl, hq⟩
theorem clock_any (t : Int) (w : World) (h0 : 0 ≤ t) (h1 : t ≤ 253402300799) : Calls Tryd.prog 26 #[.int .i64 t] w fun e w' => e = .returned (.tuple #[.int .i64 (t / 3600 % 24), .int .i64 (t / 60 % 60), .int .i64 (t % 60)]) ∧ w = w' := by
  go_enter Tryd.func26, Tryd.ntmps26
  go_wp2_with fail
  go_ret3
  exact ⟨rfl, rfl⟩
/-- The last digits of a number, so many. -/
def digL (n : Int) : Nat → List UInt8
  | 0 => []
  | k + 1 => dc (n / 10 ^ k) :: digL n k
theorem digL_2 (n : Int) : digL n 2 = d2 n := by simp [digL, d2]
theorem digL_4 (n : Int) : digL n 4 = d4 n := by simp [digL, d4]
theorem digL_length (n : Int) (k : Nat) : (digL n k).length = k := by induction k with
  | zero => rfl
  | succ k ih => simp [digL, ih]
theorem dig_lit (n : Int) (h0 : 0 ≤ n) : sub [48, 49, 50, 51, 52, 53, 54, 55, 56, 57] (n % 10).toNat (n % 10 + 1).toNat = [dc n] := by
  unfold dc
  rcases (by omega : n % 10 = 0 ∨ n % 10 = 1 ∨ n % 10 = 2 ∨ n % 10 = 3 ∨ n % 10 = 4 ∨ n % 10 = 5 ∨ n % 10 = 6 ∨ n % 10 = 7 ∨ n % 10 = 8 ∨ n % 10 = 9) with e | e | e | e | e | e | e | e | e | e <;> rw [e] <;> rfl
set_option maxHeartbeats 2000000 in
theorem digits_any (n : Int) (many : Nat) (w : World) (h0 : 0 ≤ n) (h1 : n ≤ 1000000) (hm : many ≤ 10) : Calls Tryd.prog 30 #[.int .i64 n, .int .i64 (many : Int)] w fun e w' => e = .returned (.string ⟨(digL n many).toArray⟩) ∧ w = w' := by
  go_enter Tryd.func30, Tryd.ntmps30
  go_wp2_with fail
  go_loop [0, 5, 6] (fun nv s i => ∃ (k : Nat) (c : Int), k ≤ many ∧ i = .int .i64 k ∧ nv = .int .i64 c ∧ Hid (c = n / 10 ^ k) ∧ 0 ≤ c ∧ c ≤ 1000000 ∧ s = .string ⟨(digL n k).toArray⟩) (fun _ _ i => many - (intOf i).toNat)
  case atStart => exact ⟨0, n, by omega, rfl, rfl, Lib.hid (by simp), by omega, by omega, rfl⟩
  case round =>
    obtain ⟨k, c, hk, rfl, rfl, hc, hc0, hc1, rfl⟩ := hrel
    by_cases hlt : k < many
    · have hd : decide (k < many) = true := by simpa using hlt
      have hs : digL n (k + 1) = dc c :: digL n k := by rw [hc.out]; rfl
      have hl := digL_length n k
      have hdl := dig_lit c hc0
      have hc2 : c / 10 = n / 10 ^ (k + 1) := by rw [hc.out, Int.pow_succ, Int.ediv_ediv_of_nonneg (Int.pow_nonneg (by decide))]
      generalize digL n k = S at *
      have HS := Lib.hid hs
      have HC2 := Lib.hid hc2
      clear hs hc2
      go_wp2_with fail
      go_round
      case rel => exact ⟨k + 1, c / 10, by omega, by go_num, rfl, HC2, by omega, by omega, by rw [HS.out]⟩
      case measure => simp [intOf]; omega
    · obtain rfl : k = many := by omega
      have hd : decide (k < k) = false := by simp
      go_wp2_with fail
      go_ret
      exact ⟨rfl, rfl⟩
end Go.Proofs.YthcndiaomkjjpaaDoor
