/- The three texts of a moment: the moment layer's. -/
import Derived.Test.YthcndiaomkjjpaaDoorMoF
import Derived.Test.YthcndiaomkjjpaaDoorMoC
import Derived.Test.YthcndiaomkjjpaaDoorMix
set_option linter.unusedVariables false
namespace Go.Proofs.YthcndiaomkjjpaaDoor
open Go Go.RowKit
@[go_sem] theorem d4_length (n : Int) : (d4 n).length = 4 := rfl
@[go_sem] theorem d2_length (n : Int) : (d2 n).length = 2 := rfl
def hoI (t : Int) : Int := t / 3600 % 24
def miI (t : Int) : Int := t / 60 % 60
def seI (t : Int) : Int := t % 60
def stampL (t : Int) : List UInt8 := d4 (civY (zI t)) ++ d2 (civM (zI t)) ++ d2 (civD (zI t)) ++ [84] ++ d2 (hoI t) ++ d2 (miI t) ++ d2 (seI t) ++ [90]
def longL (t : Int) : List UInt8 := d4 (civY (zI t)) ++ [45] ++ d2 (civM (zI t)) ++ [45] ++ d2 (civD (zI t)) ++ [84] ++ d2 (hoI t) ++ [58] ++ d2 (miI t) ++ [58] ++ d2 (seI t) ++ [46, 48, 48, 48, 90]
def weeksL : List UInt8 := [83, 117, 110, 77, 111, 110, 84, 117, 101, 87, 101, 100, 84, 104, 117, 70, 114, 105, 83, 97, 116]
def monthsL : List UInt8 := [74, 97, 110, 70, 101, 98, 77, 97, 114, 65, 112, 114, 77, 97, 121, 74, 117, 110, 74, 117, 108, 65, 117, 103, 83, 101, 112, 79, 99, 116, 78, 111, 118, 68, 101, 99]
def weekL (t : Int) : List UInt8 := sub weeksL (3 * ((t / 86400 + 4) % 7)).toNat (3 * ((t / 86400 + 4) % 7) + 3).toNat
def monthL (m : Int) : List UInt8 := sub monthsL (3 * m - 3).toNat (3 * m).toNat
def webL (t : Int) : List UInt8 := weekL t ++ [44, 32] ++ d2 (civD (zI t)) ++ [32] ++ monthL (civM (zI t)) ++ [32] ++ d4 (civY (zI t)) ++ [32] ++ d2 (hoI t) ++ [58] ++ d2 (miI t) ++ [58] ++ d2 (seI t) ++ [32, 71, 77, 84]
theorem parts_bd (t : Int) (h0 : 0 ≤ t) (h1 : t ≤ 253402300799) : (1970 ≤ civY (zI t) ∧ civY (zI t) ≤ 9999) ∧ (1 ≤ civM (zI t) ∧ civM (zI t) ≤ 12) ∧ (1 ≤ civD (zI t) ∧ civD (zI t) ≤ 31) ∧ (0 ≤ hoI t ∧ hoI t < 24) ∧ (0 ≤ miI t ∧ miI t < 60) ∧ (0 ≤ seI t ∧ seI t < 60) := by
  have hz : 719468 ≤ zI t ∧ zI t < 3652365 := by unfold zI; omega
  have h := civ_ok (zI t) (by omega)
  have hl := (long_bd (civY (zI t)) (civM (zI t))).2
  refine ⟨civ_year _ hz.1 hz.2, ⟨h.1, h.2.1⟩, ⟨h.2.2.1, by omega⟩, ?_, ?_, ?_⟩
  · unfold hoI; omega
  · unfold miI; omega
  · unfold seI; omega
theorem Stamp_no (t : Int) (w : World) (h : t < 0 ∨ 253402300799 < t) : Calls Tryd.prog 9 #[.int .i64 t] w fun e w' => e = .returned (.tuple #[.string ⟨#[]⟩, .int .i64 1]) ∧ w = w' := by
  have H := Lib.hid h
  clear h
  go_enter Tryd.func9, Tryd.ntmps9
  go_wp2_with fail
  with_reducible refine (Date_no t _ H.out).mono ?_
  rintro e w1 ⟨rfl, rfl⟩
  go_wp2_with fail
  go_ret2
  exact ⟨rfl, rfl⟩
theorem Long_no (t : Int) (w : World) (h : t < 0 ∨ 253402300799 < t) : Calls Tryd.prog 10 #[.int .i64 t] w fun e w' => e = .returned (.tuple #[.string ⟨#[]⟩, .int .i64 1]) ∧ w = w' := by
  have H := Lib.hid h
  clear h
  go_enter Tryd.func10, Tryd.ntmps10
  go_wp2_with fail
  with_reducible refine (Date_no t _ H.out).mono ?_
  rintro e w1 ⟨rfl, rfl⟩
  go_wp2_with fail
  go_ret2
  exact ⟨rfl, rfl⟩
theorem Web_no (t : Int) (w : World) (h : t < 0 ∨ 253402300799 < t) : Calls Tryd.prog 11 #[.int .i64 t] w fun e w' => e = .returned (.tuple #[.string ⟨#[]⟩, .int .i64 1]) ∧ w = w' := by
  have H := Lib.hid h
  clear h
  go_enter Tryd.func11, Tryd.ntmps11
  go_wp2_with fail
  with_reducible refine (Date_no t _ H.out).mono ?_
  rintro e w1 ⟨rfl, rfl⟩
  go_wp2_with fail
  go_ret2
  exact ⟨rfl, rfl⟩
theorem clockP (t : Int) (w : World) (h0 : 0 ≤ t) (h1 : t ≤ 253402300799) : Calls Tryd.prog 26 #[.int .i64 t] w fun e w' => e = .returned (.tuple #[.int .i64 (hoI t), .int .i64 (miI t), .int .i64 (seI t)]) ∧ w = w' := clock_any t w h0 h1
set_option maxRecDepth 100000 in
set_option maxHeartbeats 4000000 in
theorem Stamp_ok (t : Int) (w : World) (ht : Tab w) (h0 : 0 ≤ t) (h1 : t ≤ 253402300799) : Calls Tryd.prog 9 #[.int .i64 t] w fun e w' => e = .returned (.tuple #[.string ⟨(stampL t).toArray⟩, .int .i64 0]) ∧ Q w w' := by
  obtain ⟨⟨y0, y1⟩, ⟨m0, m1⟩, ⟨d0, d1⟩, ⟨o0, o1⟩, ⟨i0, i1⟩, ⟨s0, s1⟩⟩ := parts_bd t h0 h1
  have hs : stampL t = d4 (civY (zI t)) ++ d2 (civM (zI t)) ++ d2 (civD (zI t)) ++ [84] ++ d2 (hoI t) ++ d2 (miI t) ++ d2 (seI t) ++ [90] := rfl
  have hd := Date_ok t w h0 h1
  have hc := clockP t w h0 h1
  generalize civY (zI t) = Y at *
  generalize civM (zI t) = M at *
  generalize civD (zI t) = D at *
  generalize hoI t = o at *
  generalize miI t = i at *
  generalize seI t = s at *
  have HT := Lib.hid ht
  have HS := Lib.hid hs
  have HD := Lib.hid hd
  have HC := Lib.hid hc
  clear ht hs hd hc
  go_enter Tryd.func9, Tryd.ntmps9
  go_wp2_with fail
  with_reducible refine HD.out.mono ?_
  rintro e w0 ⟨rfl, rfl⟩
  go_wp2_with fail
  with_reducible refine HC.out.mono ?_
  rintro e w0 ⟨rfl, rfl⟩
  go_wp2_with fail
  with_reducible refine (wide4 Y _ HT.out (by omega) (by omega)).mono ?_
  rintro e w1 ⟨rfl, hq1⟩
  have HQ1 := Lib.hid hq1
  clear hq1
  go_wp2_with fail
  with_reducible refine (two_any M _ (by omega) (by omega)).mono ?_
  rintro e w2 ⟨rfl, hq2⟩
  have HQ2 := Lib.hid (HQ1.out.trans hq2)
  clear hq2 HQ1
  go_wp2_with fail
  with_reducible refine (two_any D _ (by omega) (by omega)).mono ?_
  rintro e w3 ⟨rfl, hq3⟩
  have HQ3 := Lib.hid (HQ2.out.trans hq3)
  clear hq3 HQ2
  go_wp2_with fail
  with_reducible refine (two_any o _ (by omega) (by omega)).mono ?_
  rintro e w4 ⟨rfl, hq4⟩
  have HQ4 := Lib.hid (HQ3.out.trans hq4)
  clear hq4 HQ3
  go_wp2_with fail
  with_reducible refine (two_any i _ (by omega) (by omega)).mono ?_
  rintro e w5 ⟨rfl, hq5⟩
  have HQ5 := Lib.hid (HQ4.out.trans hq5)
  clear hq5 HQ4
  go_wp2_with fail
  with_reducible refine (two_any s _ (by omega) (by omega)).mono ?_
  rintro e w6 ⟨rfl, hq6⟩
  have HQ6 := Lib.hid (HQ5.out.trans hq6)
  clear hq6 HQ5
  go_wp2_with fail
  go_ret2
  exact ⟨by rw [HS.out]; simp, HQ6.out⟩
set_option maxRecDepth 100000 in
set_option maxHeartbeats 4000000 in
theorem Long_ok (t : Int) (w : World) (ht : Tab w) (h0 : 0 ≤ t) (h1 : t ≤ 253402300799) : Calls Tryd.prog 10 #[.int .i64 t] w fun e w' => e = .returned (.tuple #[.string ⟨(longL t).toArray⟩, .int .i64 0]) ∧ Q w w' := by
  obtain ⟨⟨y0, y1⟩, ⟨m0, m1⟩, ⟨d0, d1⟩, ⟨o0, o1⟩, ⟨i0, i1⟩, ⟨s0, s1⟩⟩ := parts_bd t h0 h1
  have hs : longL t = d4 (civY (zI t)) ++ [45] ++ d2 (civM (zI t)) ++ [45] ++ d2 (civD (zI t)) ++ [84] ++ d2 (hoI t) ++ [58] ++ d2 (miI t) ++ [58] ++ d2 (seI t) ++ [46, 48, 48, 48, 90] := rfl
  have hd := Date_ok t w h0 h1
  have hc := clockP t w h0 h1
  generalize civY (zI t) = Y at *
  generalize civM (zI t) = M at *
  generalize civD (zI t) = D at *
  generalize hoI t = o at *
  generalize miI t = i at *
  generalize seI t = s at *
  have HT := Lib.hid ht
  have HS := Lib.hid hs
  have HD := Lib.hid hd
  have HC := Lib.hid hc
  clear ht hs hd hc
  go_enter Tryd.func10, Tryd.ntmps10
  go_wp2_with fail
  with_reducible refine HD.out.mono ?_
  rintro e w0 ⟨rfl, rfl⟩
  go_wp2_with fail
  with_reducible refine HC.out.mono ?_
  rintro e w0 ⟨rfl, rfl⟩
  go_wp2_with fail
  with_reducible refine (wide4 Y _ HT.out (by omega) (by omega)).mono ?_
  rintro e w1 ⟨rfl, hq1⟩
  have HQ1 := Lib.hid hq1
  clear hq1
  go_wp2_with fail
  with_reducible refine (two_any M _ (by omega) (by omega)).mono ?_
  rintro e w2 ⟨rfl, hq2⟩
  have HQ2 := Lib.hid (HQ1.out.trans hq2)
  clear hq2 HQ1
  go_wp2_with fail
  with_reducible refine (two_any D _ (by omega) (by omega)).mono ?_
  rintro e w3 ⟨rfl, hq3⟩
  have HQ3 := Lib.hid (HQ2.out.trans hq3)
  clear hq3 HQ2
  go_wp2_with fail
  with_reducible refine (two_any o _ (by omega) (by omega)).mono ?_
  rintro e w4 ⟨rfl, hq4⟩
  have HQ4 := Lib.hid (HQ3.out.trans hq4)
  clear hq4 HQ3
  go_wp2_with fail
  with_reducible refine (two_any i _ (by omega) (by omega)).mono ?_
  rintro e w5 ⟨rfl, hq5⟩
  have HQ5 := Lib.hid (HQ4.out.trans hq5)
  clear hq5 HQ4
  go_wp2_with fail
  with_reducible refine (two_any s _ (by omega) (by omega)).mono ?_
  rintro e w6 ⟨rfl, hq6⟩
  have HQ6 := Lib.hid (HQ5.out.trans hq6)
  clear hq6 HQ5
  go_wp2_with fail
  go_ret2
  exact ⟨by rw [HS.out]; simp, HQ6.out⟩
set_option maxRecDepth 100000 in
set_option maxHeartbeats 4000000 in
theorem Web_ok (t : Int) (w : World) (ht : Tab w) (h0 : 0 ≤ t) (h1 : t ≤ 253402300799) : Calls Tryd.prog 11 #[.int .i64 t] w fun e w' => e = .returned (.tuple #[.string ⟨(webL t).toArray⟩, .int .i64 0]) ∧ Q w w' := by
  obtain ⟨⟨y0, y1⟩, ⟨m0, m1⟩, ⟨d0, d1⟩, ⟨o0, o1⟩, ⟨i0, i1⟩, ⟨s0, s1⟩⟩ := parts_bd t h0 h1
  have hs : webL t = weekL t ++ [44, 32] ++ d2 (civD (zI t)) ++ [32] ++ monthL (civM (zI t)) ++ [32] ++ d4 (civY (zI t)) ++ [32] ++ d2 (hoI t) ++ [58] ++ d2 (miI t) ++ [58] ++ d2 (seI t) ++ [32, 71, 77, 84] := rfl
  have hd := Date_ok t w h0 h1
  have hc := clockP t w h0 h1
  have hw : sub [83, 117, 110, 77, 111, 110, 84, 117, 101, 87, 101, 100, 84, 104, 117, 70, 114, 105, 83, 97, 116] (3 * ((t / 86400 + 4) % 7)).toNat (3 * ((t / 86400 + 4) % 7) + 3).toNat = weekL t := rfl
  have hm : sub [74, 97, 110, 70, 101, 98, 77, 97, 114, 65, 112, 114, 77, 97, 121, 74, 117, 110, 74, 117, 108, 65, 117, 103, 83, 101, 112, 79, 99, 116, 78, 111, 118, 68, 101, 99] (3 * civM (zI t) - 3).toNat (3 * civM (zI t)).toNat = monthL (civM (zI t)) := rfl
  have hwl : (weekL t).length ≤ 3 := by rw [← hw, length_sub]; omega
  have hml : (monthL (civM (zI t))).length ≤ 36 := by rw [← hm, length_sub]; simp; omega
  generalize civY (zI t) = Y at *
  generalize civM (zI t) = M at *
  generalize civD (zI t) = D at *
  generalize hoI t = o at *
  generalize miI t = i at *
  generalize seI t = s at *
  generalize weekL t = WK at *
  generalize monthL M = MN at *
  have HW := Lib.hid hw
  have HM := Lib.hid hm
  clear hw hm
  have HT := Lib.hid ht
  have HS := Lib.hid hs
  have HD := Lib.hid hd
  have HC := Lib.hid hc
  clear ht hs hd hc
  go_enter Tryd.func11, Tryd.ntmps11
  go_wp2_with fail
  with_reducible refine HD.out.mono ?_
  rintro e w0 ⟨rfl, rfl⟩
  go_wp2_with fail
  with_reducible refine HC.out.mono ?_
  rintro e w0 ⟨rfl, rfl⟩
  go_upto_region 6 with (fail)
  obtain ⟨k, hk⟩ : ∃ k, (t / 86400 + 4) % 7 = k := ⟨_, rfl⟩
  have hkb : 0 ≤ k ∧ k ≤ 6 := by omega
  have hw := HW.out
  have hm := HM.out
  rw [hk] at hw ⊢
  clear hk
  have k1 : 0 ≤ 3 * k := by omega
  have k2 : 3 * k ≤ 3 * k + 3 := by omega
  have k3 : 3 * k + 3 ≤ 21 := by omega
  have k4 : 0 ≤ 3 * M - 3 := by omega
  have k5 : 3 * M - 3 ≤ 3 * M := by omega
  have k6 : 3 * M ≤ 36 := by omega
  refine wp_region_q (by kernel_rfl) (by kernel_rfl) ?_
  (repeat (go_big_quiet_step (first | (go_at_call 28; exact calls_q (two_any _ _ (by omega) (by omega))) | (go_at_call 27; exact calls_q (wide4 Y _ (HT.out.q (QW.le _)) (by omega) (by omega))))))
  refine wpQuiet_nil ?_
  rintro wx ⟨mx, hmx⟩
  have hqx : Q w wx := by rw [hmx]; exact mx.le
  have HQX := Lib.hid hqx
  clear hmx mx hqx hw hm
  go_wp2_with fail
  go_ret2
  exact ⟨by rw [HS.out]; simp, HQX.out⟩
end Go.Proofs.YthcndiaomkjjpaaDoor
