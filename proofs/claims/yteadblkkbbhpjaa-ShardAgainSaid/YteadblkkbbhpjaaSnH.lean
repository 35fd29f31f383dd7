/- the document's Seal, walked. -/
import Derived.Test.YteadblkkbbhpjaaSnG
set_option linter.unusedVariables false
namespace Go.Proofs.Yteadblkkbbhpjaa
open Go Go.RowKit
set_option maxRecDepth 100000 in
set_option maxHeartbeats 2000000 in
theorem SealR_ok (nm l : List UInt8) (w : World) (h1 : nm.length ≤ 220) (h2 : l.length ≤ 10000) :
    Calls Try.prog 14 #[.string ⟨nm.toArray⟩, .string ⟨l.toArray⟩] w fun e w' => e = .returned (.tuple #[.string ⟨(sealL nm l).toArray⟩, .int .i64 0]) ∧ Q w w' := by
  have g1 : decide (220 < (nm.length : Int)) = false := by simp; omega
  have g2 : decide (10000 < (l.length : Int)) = false := by simp; omega
  go_enter Try.func14, Try.ntmps14
  go_wp2_with fail
  refine (headR_any nm _ _ (by omega) (by omega) h1).mono ?_
  rintro e w1 ⟨rfl, hq1⟩
  go_wp2_with fail
  go_loopw [6, 7] (fun s i wr => ∃ k : Nat, k ≤ nB l.length ∧ i = .int .i64 k ∧ s = .string ⟨(sealK nm l k).toArray⟩ ∧ Q w wr) (fun s i _ => nB l.length - (intOf i).toNat)
  case atStart => exact ⟨0, by omega, rfl, by simp [sealK], hq1⟩
  case round =>
    obtain ⟨k, hk, rfl, rfl, hq⟩ := hrel
    by_cases hlt : k < nB l.length
    · have ha := aK_lt l.length k hlt
      have hln := sealK_len nm l k hk
      have hsb := sK_bd l.length k h2 hlt
      have g3 : decide ((k : Int) * 200 < (l.length : Int)) = true := by simp; omega
      have hbl : (sub l (k * 200) (min (l.length : Int) (((k : Int) + 1) * 200)).toNat) = blkL l k := by
        unfold blkL
        rw [show k * 200 = 200 * k by omega, show (min (l.length : Int) (((k : Int) + 1) * 200)).toNat = min l.length (200 * (k + 1)) by omega]
      have hbn : (blkL l k).length ≤ 200 := by unfold blkL; rw [length_sub]; omega
      have hsl : (sumL nm l.length k (blkL l k)).length = 32 := sha_length _
      have HS := Lib.hid (sealK_s nm l k)
      go_wp2_with fail
      rw [hbl]
      refine (sumS_any nm _ _ (blkL l k) _ (by omega) (by omega) (by omega) (by omega) h1 hbn).mono ?_
      rintro e w2 ⟨rfl, hq2⟩
      go_wp2_with fail
      go_roundw
      case rel => exact ⟨k + 1, hlt, by go_num, by rw [HS.out], hq.trans hq2⟩
      case measure => simp [intOf]; omega
    · obtain rfl : k = nB l.length := by omega
      have g3 : decide (((nB l.length : Nat) : Int) * 200 < (l.length : Int)) = false := by unfold nB; simp; omega
      have hnb : ((nB l.length : Nat) : Int) ≤ 60 := by unfold nB; omega
      have HQ := Lib.hid hq
      clear hk hq
      go_wp2_with fail
      go_ret2
      exact ⟨rfl, HQ.out⟩
end Go.Proofs.Yteadblkkbbhpjaa
