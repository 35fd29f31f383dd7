/- the document's Open: the head is right. -/
import Derived.Test.YteadblkkbbhpjaaSnL
set_option linter.unusedVariables false
namespace Go.Proofs.Yteadblkkbbhpjaa
open Go Go.RowKit
theorem sizeI_ge (n k : Nat) (hn : n ≤ 10000) (h : k < nB n) : (sK n k + zK n k + 32 : Int) ≤ sizeI n := by
  have := aK_lt n k h
  unfold sizeI sK zK
  rw [if_neg (by omega)]
  unfold nB at h
  omega
theorem obL_len (s : List UInt8) (n k : Nat) (hn : n ≤ 10000) (h : k < nB n) (hs : (s.length : Int) = sizeI n) : (obL s n k).length = zK n k := by
  have := sizeI_ge n k hn h
  unfold obL; rw [length_sub]; omega
theorem osL_len (s : List UInt8) (n k : Nat) (hn : n ≤ 10000) (h : k < nB n) (hs : (s.length : Int) = sizeI n) : (osL s n k).length = 32 := by
  have := sizeI_ge n k hn h
  unfold osL; rw [length_sub]; omega
theorem textK_len (s : List UInt8) (n k : Nat) : (textK s n k).length ≤ 200 * k := by
  induction k with
  | zero => simp [textK]
  | succ k ih =>
    rw [textK_s, List.length_append]
    have : (obL s n k).length ≤ 200 := by unfold obL zK; rw [length_sub]; omega
    omega
set_option maxRecDepth 100000 in
set_option maxHeartbeats 4000000 in
theorem OpenR_c (nm s : List UInt8) (w : World) (hs : s.length ≤ 140737488355328) (hn : nm.length ≤ 220) (h : OpHead nm s) :
    Calls Try.prog 19 #[.string ⟨nm.toArray⟩, .string ⟨s.toArray⟩] w (OpPost nm s w) := by
  have hs2 : 36 ≤ s.length := h.1
  have g1 : decide (220 < (nm.length : Int)) = false := by simp; omega
  have g2 : decide ((s.length : Int) < 36) = false := by simp; omega
  have hb := r32_bd' s
  have HR := Lib.hid (fun w => Read32R_any s w (by omega) hs)
  have HP : ∀ t x a w', (OpSays nm s t x a ∧ Q w w') → OpPost nm s w (.returned (.tuple #[.string ⟨t.toArray⟩, .int .i64 x, .int .i64 a])) w' := fun t x a w' h => ⟨t, x, a, rfl, h.1, h.2⟩
  have HP := Lib.hid HP
  obtain ⟨n, hN⟩ : ∃ n : Nat, r32 s = n := ⟨(r32 s).toNat, by omega⟩
  have hnn : n ≤ 10000 := by have := h.2.1; omega
  have hsz : (s.length : Int) = sizeI n := by rw [← hN]; exact h.2.2.1
  have HH := Lib.hid h
  have HB1 : Hid (∀ k, k < nB n → (∀ j, j < k → okK nm s n j = true) → okK nm s n k = false → OpSays nm s [] 14 (sK n k : Int)) := Lib.hid (fun k hk hj hb => .inr (.inr (.inl ⟨hn, h, k, by rw [hN]; simpa using hk, by rw [hN]; simpa using hj, by rw [hN]; simpa using hb, rfl, rfl, by rw [hN]; simp⟩)))
  have HB2 : Hid ((∀ j, j < nB n → okK nm s n j = true) → OpSays nm s (textK s n (nB n)) 0 0) := Lib.hid (fun hj => .inr (.inr (.inr ⟨hn, h, by rw [hN]; simpa using hj, by rw [hN]; simp, rfl, rfl⟩)))
  have HD := Lib.hid (fun w => headR_any nm (r32 s) w hb.1 (by omega) hn)
  have HZ := Lib.hid (fun w => SizeR_any (r32 s) w)
  have g3 : decide (10000 < (n : Int)) = false := by simp; omega
  have g4 : ((s.length : Int) != sizeI n) = false := by simpa using hsz
  have g5 : (sub s 0 36 == headL nm n) = true := by rw [← hN]; simpa using h.2.2.2
  rw [hN] at HR HD HZ
  clear h
  have HC := Lib.hid (And.intro hnn hsz)
  clear hsz
  generalize hZn : sizeI n = Z at *
  generalize hHn : headL nm n = H at *
  go_enter Try.func19, Try.ntmps19
  go_wp2_with fail
  refine (HR.out _).mono ?_
  rintro e w1 ⟨rfl, hq1⟩
  go_wp2_with fail
  refine wp_region_q (by kernel_rfl) (by kernel_rfl) ?_
  (repeat (go_big_quiet_step ((first | (go_at_call 17; exact calls_qs (HZ.out _)) | (go_at_call 46; exact calls_q (HD.out _))))))
  refine wpQuiet_nil ?_
  rintro wa ⟨ma, hma⟩
  have hqa : Q w1 wa := by rw [hma]; exact ma.le
  go_wp2_with fail
  have hq0 : Q w wa := hq1.trans hqa
  clear hqa hma ma hq1
  go_loopw [8, 9, 10] (fun t a i wr => ∃ k : Nat, k ≤ nB n ∧ i = .int .i64 k ∧ a = .int .i64 (sK n k : Int) ∧ t = .string ⟨(textK s n k).toArray⟩ ∧ (∀ j, j < k → okK nm s n j = true) ∧ Q w wr) (fun _ _ i _ => nB n - (intOf i).toNat)
  case atStart => exact ⟨0, by omega, rfl, by rw [sK_0]; rfl, by simp [textK], fun j hj => by omega, hq0⟩
  case round =>
    obtain ⟨k, hk, rfl, rfl, rfl, hok, hq⟩ := hrel
    have HK := Lib.hid hok
    clear hok
    by_cases hlt : k < nB n
    · have ha := aK_lt n k hlt
      have g6 : decide ((k : Int) * 200 < (n : Int)) = true := by simp; omega
      have g7 : min ((n : Int) - (k : Int) * 200) 200 = (zK n k : Int) := by unfold zK; omega
      have hbl := obL_len s n k hnn hlt (by rw [HC.out.2, ← hZn])
      have hol := osL_len s n k hnn hlt (by rw [HC.out.2, ← hZn])
      have hge := sizeI_ge n k hnn hlt
      rw [hZn, ← HC.out.2] at hge
      have hsb := sK_bd n k hnn hlt
      have htl := textK_len s n k
      have hkn : k ≤ 60 := by unfold nB at hlt; omega
      have hzb : (zK n k : Int) ≤ 200 := by unfold zK; omega
      have HSS := Lib.hid (sK_s n k hlt)
      have HT := Lib.hid (textK_s s n k)
      have HX := Lib.hid (fun w => sumS_any nm n k (obL s n k) w (by omega) (by omega) (by omega) (by omega) hn (by omega))
      have hob : sub s (sK n k) (sK n k + zK n k) = obL s n k := rfl
      have hos : sub s (sK n k + zK n k) (sK n k + zK n k + 32) = osL s n k := rfl
      by_cases hc : osL s n k = sumL nm n k (obL s n k)
      · have g8 : (osL s n k == sumL nm n k (obL s n k)) = true := by simpa using hc
        have hc := Lib.hid hc
        go_wp2_with fail
        rw [hob]
        refine wp_region_q (by kernel_rfl) (by kernel_rfl) ?_
        (repeat (go_big_quiet_step ((go_at_call 47; exact calls_q (HX.out _)))))
        refine wpQuiet_nil ?_
        rintro wb ⟨mb, hmb⟩
        have hqb : Q wr wb := by rw [hmb]; exact mb.le
        go_wp2_with fail
        go_roundw
        case rel => exact ⟨k + 1, hlt, by go_num, by rw [HSS.out]; go_num, by rw [HT.out], fun j hj => by rcases Nat.lt_succ_iff_lt_or_eq.mp hj with e | e; exact HK.out j e; subst e; exact decide_eq_true hc.out, hq.trans mb.le⟩
        case measure => simp [intOf]; omega
      · have g8 : (osL s n k == sumL nm n k (obL s n k)) = false := by simpa using hc
        have HF := Lib.hid (HB1.out k hlt HK.out (by simp [okK, hc]))
        clear hc
        go_wp2_with fail
        rw [hob]
        refine wp_region_q (by kernel_rfl) (by kernel_rfl) ?_
        (repeat (go_big_quiet_step ((go_at_call 47; exact calls_q (HX.out _)))))
        refine wpQuiet_nil ?_
        rintro wb ⟨mb, hmb⟩
        have hqb : Q wr wb := by rw [hmb]; exact mb.le
        go_wp2_with fail
        go_ret3
        exact HP.out _ _ _ _ ⟨HF.out, hq.trans hqb⟩
    · obtain rfl : k = nB n := by omega
      have g6 : decide (((nB n : Nat) : Int) * 200 < (n : Int)) = false := by unfold nB; simp; omega
      have hnb : ((nB n : Nat) : Int) ≤ 60 := by unfold nB; omega
      have HQ := Lib.hid hq
      have HF := Lib.hid (HB2.out HK.out)
      clear hk hq
      go_wp2_with fail
      go_ret3
      exact HP.out _ _ _ _ ⟨HF.out, HQ.out⟩
theorem OpenR_any (nm s : List UInt8) (w : World) (hs : s.length ≤ 140737488355328) (hn : nm.length ≤ 140737488355328) :
    Calls Try.prog 19 #[.string ⟨nm.toArray⟩, .string ⟨s.toArray⟩] w (OpPost nm s w) := by
  by_cases h : 220 < nm.length ∨ s.length < 36
  · exact OpenR_a nm s w hs hn h
  · by_cases hh : OpHead nm s
    · exact OpenR_c nm s w hs (by omega) hh
    · exact OpenR_b nm s w hs (by omega) (by omega) hh
theorem SealR_any (nm l : List UInt8) (w : World) (hn : nm.length ≤ 140737488355328) (hl : l.length ≤ 140737488355328) :
    Calls Try.prog 14 #[.string ⟨nm.toArray⟩, .string ⟨l.toArray⟩] w fun e w' => ((nm.length ≤ 220 ∧ l.length ≤ 10000 ∧ e = .returned (.tuple #[.string ⟨(sealL nm l).toArray⟩, .int .i64 0])) ∨ (¬ (nm.length ≤ 220 ∧ l.length ≤ 10000) ∧ e = .returned (.tuple #[.string ⟨#[]⟩, .int .i64 1]))) ∧ Q w w' := by
  by_cases h : 220 < nm.length ∨ 10000 < l.length
  · refine (SealR_bad nm l w h hn hl).mono ?_
    rintro e w1 ⟨rfl, rfl⟩
    exact ⟨.inr ⟨by omega, rfl⟩, Q.refl _⟩
  · refine (SealR_ok nm l w (by omega) (by omega)).mono ?_
    rintro e w1 ⟨rfl, hq⟩
    exact ⟨.inl ⟨by omega, by omega, rfl⟩, hq⟩
end Go.Proofs.Yteadblkkbbhpjaa
