/- The reference's Unhex. -/
import Derived.Test.YteadblkkbbhpjaaRfE
import Derived.Test.YteadblkkbbhpjaaMix
set_option linter.unusedVariables false
namespace Go.Proofs.Yteadblkkbbhpjaa
open Go Go.RowKit
theorem place_hex (c : UInt8) (w : World) : Calls Try.prog 61 #[.string ⟨#[48, 49, 50, 51, 52, 53, 54, 55, 56, 57, 97, 98, 99, 100, 101, 102]⟩, .int .u8 (c.toNat : Int)] w fun e w' => e = .returned (.int .i64 (hexI c)) ∧ w = w' :=
  place_any hexd c w (by decide)
set_option maxRecDepth 100000 in
set_option maxHeartbeats 4000000 in
theorem RUnhex_any (l : List UInt8) (w : World) (hl : l.length ≤ 140737488355328) : Calls Try.prog 31 #[.string ⟨l.toArray⟩] w (UnPost (unhexL l) w) := by
  go_enter Try.func31, Try.ntmps31
  go_wp2_with fail
  go_loop [5] (fun i => ∃ k : Nat, k ≤ l.length ∧ i = .int .i64 k ∧ Hid (∀ j, j < k → 0 ≤ hexI (gB l j))) (fun i => l.length - (intOf i).toNat)
  case atStart => exact ⟨0, by omega, rfl, Lib.hid (fun j hj => by omega)⟩
  case round =>
    obtain ⟨k, hk, rfl, hgood⟩ := hrel
    by_cases hlt : k < l.length
    · have hd : decide (k < l.length) = true := by simpa using hlt
      by_cases hbad : hexI (gB l k) < 0
      · have hdb : decide (hexI (gB l k) < 0) = true := by simpa using hbad
        have hres : unhexL l = ([], 50, (k : Int)) := by
          unfold unhexL
          rw [show badHex l = some k from find_range_some hlt (fun j hj => by have := hgood.out j hj; simp; omega) (by simpa using hbad)]
        have HR := Lib.hid hres
        clear hres
        go_wp2_with (go_at_call 61; refine (place_hex _ _).mono ?_; rintro e w' ⟨rfl, rfl⟩)
        go_ret3
        exact ⟨by rw [HR.out]; rfl, Q.refl _⟩
      · have hdb : decide (hexI (gB l k) < 0) = false := by simpa using hbad
        have hg2 : Hid (∀ j, j < k + 1 → 0 ≤ hexI (gB l j)) := Lib.hid fun j hj => by
          by_cases e : j = k
          · subst e; omega
          · exact hgood.out j (by omega)
        go_wp2_with (go_at_call 61; refine (place_hex _ _).mono ?_; rintro e w' ⟨rfl, rfl⟩)
        go_round
        case rel => exact ⟨k + 1, by omega, by go_num, hg2⟩
        case measure => simp [intOf]; omega
    · obtain rfl : k = l.length := by omega
      have hd : decide (l.length < l.length) = false := by simp
      have hbn : badHex l = none := find_range_none (fun j hj => by have := hgood.out j hj; simp; omega)
      by_cases hodd : l.length % 2 = 1
      · have ht : ((l.length : Int) % 2 == 0) = false := by simp; omega
        have hres : unhexL l = ([], 50, (l.length : Int)) := by unfold unhexL; rw [hbn]; simp [hodd]
        have HR := Lib.hid hres
        clear hres hbn
        go_wp2_with fail
        go_ret3
        exact ⟨by rw [HR.out]; rfl, Q.refl _⟩
      · have ht : ((l.length : Int) % 2 == 0) = true := by simp; omega
        have hres : unhexL l = (pairsL l (l.length / 2), 0, 0) := by unfold unhexL; rw [hbn]; simp [hodd]
        have HR := Lib.hid hres
        clear hres hbn
        go_wp2_with fail
        go_loopw [6, 7] (fun v i wr => ∃ j K : Nat, K = 2 * j ∧ K ≤ l.length ∧ i = .int .i64 K ∧ OwnB w wr v (pairsL l j) ∧ Q w wr) (fun _ i _ => l.length - (intOf i).toNat)
        case atStart => exact ⟨0, 0, rfl, by omega, rfl, OwnB.nil _ _, Q.refl _⟩
        case round =>
          obtain ⟨j, K, hK, hj, rfl, hO, hq⟩ := hrel
          by_cases hlt2 : K < l.length
          · have hd2 : decide (K < l.length) = true := by simpa using hlt2
            have hd3 : decide (K + 1 < l.length) = true := by simp; omega
            have HO := Lib.hid hO
            have HQ := Lib.hid hq
            have HKK := Lib.hid hK
            clear hO hq hK
            have hb1 := hexI_bd (gB l K)
            have hb2 := hexI_bd (gB l (K + 1))
            have hb3 := hgood.out K hlt2
            have hb4 := hgood.out (K + 1) (by have := HKK.out; omega)
            have hp : pairV l j = byteOf (16 * hexI (gB l K) + hexI (gB l (K + 1))) := by unfold pairV; rw [HKK.out]
            have hps := pairsL_succ l j
            rw [hp] at hps
            have hll : (pairsL l j).length + 1 ≤ 140737488355329 := by have := HKK.out; simp [pairsL]; omega
            have HPS := Lib.hid hps
            have HLL := Lib.hid hll
            clear hps hp hll
            go_upto_region 12 with (fail)
            have g1 : (K : Int) + 1 < (l.length : Int) := by have := HKK.out; omega
            have g2 : (0 : Int) ≤ (K : Int) + 1 := by omega
            have g3 : ((K : Int) + 1).toNat = K + 1 := by omega
            refine wp_region_mix [0, 1, 2, 3, 6, 7, 8, 9] [4, 5, 10, 11, 12] 13 [14, 15] (by kernel_rfl) (by kernel_rfl) (by intro c a d v w h; cases d <;> exact h) ?_
            simp only [List.map_cons, List.map_nil, Array.getD_eq_getD_getElem?, List.getElem?_toArray, List.getElem?_cons_succ, List.getElem?_cons_zero, Option.getD_some]
            (repeat (go_big_quiet_step (fail)))
            refine wpQuiet_nil ?_
            (repeat (go_big_quiet_step ((go_at_call 61; exact calls_qs (place_hex _ _)))))
            refine wpQuiet_nil ?_
            rintro wx ⟨mx, hmx⟩
            have hqx : Q wr wx := by rw [hmx]; exact mx.le
            clear hmx mx
            clear g1 g2 g3
            have hby : ((byteOf (16 * hexI (gB l K) + hexI (gB l (K + 1)))).toNat : Int) = 16 * hexI (gB l K) + hexI (gB l (K + 1)) := byteOf_int _ (by omega) (by omega)
            rw [← hby]
            clear hby
            generalize byteOf (16 * hexI (gB l K) + hexI (gB l (K + 1))) = BB at *
            generalize hF : pairsL l j = F at *
            clear hF
            have HO1 := Lib.hid (HO.out.q hqx)
            have HQ1 := Lib.hid (HQ.out.trans hqx)
            go_wp2_with (at_builtin; refine wpList_append_b rfl (.tmp 32) (.tmp 45) rfl w wx _ F (by rfl) HO1.out HQ1.out [BB] 1 rfl (by rfl) (by have := HLL.out; omega) ?_; intro v9 w9 hown9 hq9 _; have HO9 := Lib.hid hown9; have HQ9 := Lib.hid hq9; clear hown9 hq9)
            go_roundw
            case rel => exact ⟨j + 1, K + 2, by have := HKK.out; omega, by have := HKK.out; omega, by go_num, by rw [HPS.out]; exact HO9.out, HQ9.out⟩
            case measure => simp [intOf]; omega
          · obtain rfl : K = l.length := by omega
            have hd2 : decide (l.length < l.length) = false := by simp
            rw [show j = l.length / 2 from by omega] at hO
            have hcv := conv_b hO
            have HQ := Lib.hid hq
            clear hO hq hK
            go_wp2_with fail
            go_ret3
            exact ⟨by rw [HR.out]; rfl, HQ.out⟩
end Go.Proofs.Yteadblkkbbhpjaa
