/- MomentBack: what the law answers. -/
import Derived.Test.YthcndiaomkjjpaaDoorMoW
set_option linter.unusedVariables false
namespace Go.Proofs.YthcndiaomkjjpaaDoor
open Go Go.RowKit
/-- A told text is read back. -/
theorem reads_back {l : List UInt8} {TL : Int → List UInt8} {t : Int} (hinj : ∀ t u, 0 ≤ t → t ≤ 253402300799 → 0 ≤ u → u ≤ 253402300799 → TL t = l → TL u = l → t = u) (h0 : 0 ≤ t) (h1 : t ≤ 253402300799) (ht : TL t = l) {r e : Int} (h : RdSays l TL r e) : r = t ∧ e = 0 := by
  rcases h with ⟨rfl, ⟨r0, r1⟩, hr⟩ | ⟨rfl, rfl, hn⟩
  · exact ⟨hinj r t r0 r1 h0 h1 hr ht, rfl⟩
  · exact absurd ht (hn t h0 h1)
theorem stampL_len (t : Int) : (stampL t).length ≤ 140737488355328 := by unfold stampL; simp [d4_length, d2_length]
theorem longL_len (t : Int) : (longL t).length ≤ 140737488355328 := by unfold longL; simp [d4_length, d2_length]
theorem webL_len (t : Int) : (webL t).length ≤ 140737488355328 := by
  unfold webL weekL monthL sub
  simp only [List.length_append, List.length_take, List.length_drop, List.length_cons, List.length_nil, d2_length, d4_length]
  have h1 : weeksL.length = 21 := rfl
  have h2 : monthsL.length = 36 := rfl
  omega
set_option maxRecDepth 100000 in
set_option maxHeartbeats 8000000 in
theorem MomentBack_any (t : Int) (w : World) (ht : Tab w) (hsh : w.ShapedOpen Tryd.prog) : Calls Tryd.prog 6 #[.int .i64 t] w fun e w' => e = .returned (.bool true) ∧ Q w w' := by
  have HT := Lib.hid ht
  have HM := Lib.hid (ml_shaped hsh)
  clear ht hsh
  by_cases hok : 0 ≤ t ∧ t ≤ 253402300799
  · obtain ⟨h0, h1⟩ := hok
    have HS := Lib.hid (fun w ht => Stamp_ok t w ht h0 h1)
    have HL := Lib.hid (fun w ht => Long_ok t w ht h0 h1)
    have HW := Lib.hid (fun w ht => Web_ok t w ht h0 h1)
    have HD := Lib.hid (fun w => Date_ok t w h0 h1)
    have HV := Lib.hid (vld_civ t h0 h1)
    have hf := (fromI_civ t h0 h1).1
    unfold fromI at hf
    rw [if_pos HV.out] at hf
    have rrS : ∀ r e, RdSays (stampL t) stampL r e → r = t ∧ e = 0 := fun r e h => reads_back injS h0 h1 rfl h
    have RS := Lib.hid rrS
    clear rrS
    have rrL : ∀ r e, RdSays (longL t) longL r e → r = t ∧ e = 0 := fun r e h => reads_back injL h0 h1 rfl h
    have RL := Lib.hid rrL
    clear rrL
    have rrW : ∀ r e, RdSays (webL t) webL r e → r = t ∧ e = 0 := fun r e h => reads_back injW h0 h1 rfl h
    have RW := Lib.hid rrW
    clear rrW
    have LS := Lib.hid (stampL_len t)
    have LL := Lib.hid (longL_len t)
    have LW := Lib.hid (webL_len t)
    generalize stampL t = A at *
    generalize longL t = B at *
    generalize webL t = C at *
    generalize hF : (dayZ (civY (zI t)) (civM (zI t)) (civD (zI t)) - 719468) * 86400 = F0 at *
    have HF := Lib.hid hF
    clear hF
    have f0 : 0 ≤ F0 := by omega
    have f1 : F0 ≤ t := by omega
    have f2 : t - F0 < 86400 := by omega
    have d1 : decide (F0 ≤ t) = true := by simpa using f1
    have d2 : decide (t - F0 < 86400) = true := by simpa using f2
    have d3 : (F0 % 86400 == 0) = true := by simp; omega
    clear hf
    go_enter Tryd.func6, Tryd.ntmps6
    go_wp2_with fail
    with_reducible refine (examples_any _ HT.out).mono ?_
    rintro e w1 ⟨rfl, hq1⟩
    have HQ1 := Lib.hid hq1
    clear hq1
    go_wp2_with fail
    with_reducible refine (HS.out _ (HT.out.q HQ1.out)).mono ?_
    rintro e w2 ⟨rfl, hq2⟩
    have HQ2 := Lib.hid (HQ1.out.trans hq2)
    clear hq2 HQ1
    go_wp2_with fail
    with_reducible refine (HL.out _ (HT.out.q HQ2.out)).mono ?_
    rintro e w3 ⟨rfl, hq3⟩
    have HQ3 := Lib.hid (HQ2.out.trans hq3)
    clear hq3 HQ2
    go_wp2_with fail
    with_reducible refine (HW.out _ (HT.out.q HQ3.out)).mono ?_
    rintro e w4 ⟨rfl, hq4⟩
    have HQ4 := Lib.hid (HQ3.out.trans hq4)
    clear hq4 HQ3
    go_wp2_with fail
    with_reducible refine (ReadStamp_any A _ (HT.out.q HQ4.out) LS.out).mono ?_
    rintro e w5 ⟨r1, e1, rfl, k1, hq5⟩
    obtain ⟨rfl, rfl⟩ := RS.out _ _ k1
    have HQ5 := Lib.hid (HQ4.out.trans hq5)
    clear hq5 HQ4 k1
    go_wp2_with fail
    with_reducible refine (ReadLong_any B _ (HT.out.q HQ5.out) LL.out).mono ?_
    rintro e w6 ⟨r2, e2, rfl, k2, hq6⟩
    obtain ⟨rfl, rfl⟩ := RL.out _ _ k2
    have HQ6 := Lib.hid (HQ5.out.trans hq6)
    clear hq6 HQ5 k2
    go_wp2_with fail
    with_reducible refine (ReadWeb_any C _ (HT.out.q HQ6.out) (HM.out.q HQ6.out) LW.out).mono ?_
    rintro e w7 ⟨r3, e3, rfl, k3, hq7⟩
    obtain ⟨rfl, rfl⟩ := RW.out _ _ k3
    have HQ7 := Lib.hid (HQ6.out.trans hq7)
    clear hq7 HQ6 k3
    go_wp2_with fail
    with_reducible refine (HD.out _).mono ?_
    rintro e w' ⟨rfl, rfl⟩
    go_wp2_with fail
    with_reducible refine (From_ok _ _ _ _ HV.out).mono ?_
    rintro e w' ⟨rfl, rfl⟩
    rw [HF.out]
    go_wp2_with fail
    go_ret
    exact ⟨rfl, HQ7.out⟩
  · have HN := Lib.hid (fun w => Stamp_no t w (by omega))
    clear hok
    go_enter Tryd.func6, Tryd.ntmps6
    go_wp2_with fail
    with_reducible refine (examples_any _ HT.out).mono ?_
    rintro e w1 ⟨rfl, hq1⟩
    have HQ1 := Lib.hid hq1
    clear hq1
    go_wp2_with fail
    with_reducible refine (HN.out _).mono ?_
    rintro e w' ⟨rfl, rfl⟩
    go_wp2_with fail
    go_ret
    exact ⟨rfl, HQ1.out⟩
end Go.Proofs.YthcndiaomkjjpaaDoor
