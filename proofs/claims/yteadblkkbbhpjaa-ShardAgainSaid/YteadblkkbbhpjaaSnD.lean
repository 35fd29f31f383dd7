/- the document's List. -/
import Derived.Test.YteadblkkbbhpjaaSnC
set_option linter.unusedVariables false
namespace Go.Proofs.Yteadblkkbbhpjaa
open Go Go.RowKit
set_option maxHeartbeats 2000000 in
theorem ListR_any (A : Option Addr) (n cap : Nat) (ls : List (List UInt8)) (w : World) (h : StrsAt w A n ls) (hs : 4 + szL ls ≤ 60000) (hcap : cap ≤ 9223372036854775807) :
    Calls Try.prog 67 #[.slice A n cap] w fun e w' => e = .returned (.string ⟨(listL ls).toArray⟩) ∧ Q w w' := by
  have hn := h.1
  have hln := szL_len ls
  go_enter Try.func67, Try.ntmps67
  go_wp2_with fail
  refine (U32_any _ _ (by omega) (by omega)).mono ?_
  rintro e w1 ⟨rfl, hq1⟩
  go_wp2_with fail
  go_loopw [3, 4] (fun z i wr => ∃ k : Nat, k ≤ ls.length ∧ i = .int .i64 k ∧ z = .string ⟨(U32 ls.length ++ itL (ls.take k)).toArray⟩ ∧ Q w wr) (fun z i _ => ls.length - (intOf i).toNat)
  case atStart => exact ⟨0, by omega, rfl, by simp [itL], hq1⟩
  case round =>
    obtain ⟨k, hk, rfl, rfl, hq⟩ := hrel
    by_cases hlt : k < ls.length
    · have hq' := h.q hq
      obtain ⟨ad, rfl, hc⟩ := hq'.at (by omega : k < _)
      have hcm : ∀ m : QW wr, m.val.cell? (ad.add k) = some (.string ⟨(gL ls k).toArray⟩) := fun m => by
        obtain ⟨ad', e, hc'⟩ := (hq'.q m.le).at (by omega : k < _)
        cases e
        exact hc'
      have htk := szL_take ls (k + 1)
      rw [take_snocL ls k (by omega), szL_snoc] at htk
      have hle := itL_length (ls.take k)
      have HS := Lib.hid (show itL (ls.take (k + 1)) = itL (ls.take k) ++ (U32 (gL ls k).length ++ gL ls k) by rw [take_snocL ls k (by omega)]; exact itL_snoc _ _)
      have hgl : (gL ls k).length ≤ 60000 := by omega
      have hil : (itL (ls.take k)).length ≤ 60000 := by omega
      clear htk hle hq'
      have l1 : ∀ k, (U32 k).length = 4 := length_U32
      have g1 : decide ((k : Int) < (ls.length : Int)) = true := by simp; omega
      go_wp2_with fail
      refine wp_region_q (by kernel_rfl) (by kernel_rfl) ?_
      (repeat (go_big_quiet_step ((go_at_call 66; exact calls_q (U32_any _ _ (by omega) (by omega))))))
      refine wpQuiet_nil ?_
      rintro wa ⟨ma, hma⟩
      have hqa : Q wr wa := by rw [hma]; exact ma.le
      go_wp2_with fail
      go_roundw
      case rel => exact ⟨k + 1, by omega, by go_num, by first | (rw [HS.out]; done) | (rw [HS.out]; simp), hq.trans ma.le⟩
      case measure => simp [intOf]; omega
    · obtain rfl : k = ls.length := by omega
      have g1 : decide ((ls.length : Int) < (n : Int)) = false := by simp; omega
      go_wp2_with fail
      go_ret
      exact ⟨ret_eq (by simp [listL]), hq⟩
end Go.Proofs.Yteadblkkbbhpjaa
