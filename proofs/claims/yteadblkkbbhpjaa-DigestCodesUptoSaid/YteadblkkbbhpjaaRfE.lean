/- The reference's Hex. -/
import Derived.Test.YteadblkkbbhpjaaRfD
import Derived.Test.YteadblkkbbhpjaaPlC
import Derived.Test.YteadblkkbbhpjaaPure
set_option linter.unusedVariables false
namespace Go.Proofs.Yteadblkkbbhpjaa
open Go Go.RowKit
set_option maxRecDepth 100000 in
set_option maxHeartbeats 4000000 in
theorem RHex_any (l : List UInt8) (w : World) (hl : l.length ≤ 100000000000000) : Calls Try.prog 33 #[.string ⟨l.toArray⟩] w fun e w' => e = .returned (.string ⟨(hexL l).toArray⟩) ∧ Q w w' := by
  go_enter Try.func33, Try.ntmps33
  go_wp2_with fail
  go_loopw [3, 4] (fun v i wr => ∃ k : Nat, k ≤ l.length ∧ i = .int .i64 k ∧ OwnB w wr v (hexL (l.take k)) ∧ Q w wr) (fun _ i _ => l.length - (intOf i).toNat)
  case atStart => exact ⟨0, by omega, rfl, OwnB.nil _ _, Q.refl _⟩
  case round =>
    obtain ⟨k, hk, rfl, hO, hq⟩ := hrel
    by_cases hlt : k < l.length
    · have hd : decide (k < l.length) = true := by simpa using hlt
      have hlk : (hexL (l.take k)).length = 2 * k := by rw [hexL_length, List.length_take]; omega
      have HSN := Lib.hid (hexL_snoc l k hlt)
      generalize hexL (l.take k) = F at *
      have hcn := (gB l k).toNat_lt
      have HO := Lib.hid hO
      have HQ := Lib.hid hq
      have HLK := Lib.hid hlk
      clear hO hq hlk
      go_upto_region 5 with (fail)
      have i1 : ((gB l k).toNat : Int) / 16 < 16 := by omega
      have i2 : (0 : Int) ≤ ((gB l k).toNat : Int) / 16 := by omega
      have i3 : ((gB l k).toNat : Int) % 16 < 16 := by omega
      have i4 : (0 : Int) ≤ ((gB l k).toNat : Int) % 16 := by omega
      have n1 : (((gB l k).toNat : Int) / 16).toNat = (gB l k).toNat / 16 := by omega
      have n2 : (((gB l k).toNat : Int) % 16).toNat = (gB l k).toNat % 16 := by omega
      refine wp_region_pure [0, 1, 2, 3, 4, 5, 6, 7, 8, 9, 10] [11, 12, 13] (by kernel_rfl) (by kernel_rfl) (by intro c a d v w h; cases d <;> exact h) ?_
      simp only [List.map_cons, List.map_nil, Array.getD_eq_getD_getElem?, List.getElem?_toArray, List.getElem?_cons_succ, List.getElem?_cons_zero, Option.getD_some]
      (repeat (go_big_quiet_step (fail)))
      refine wpQuiet_nil ?_
      clear i1 i2 i3 i4 n1 n2
      have HO1 := Lib.hid (HO.out.q (Q.refl wr).drew)
      have HQ1 := Lib.hid HQ.out.drew
      go_wp2_with (at_builtin; refine wpList_append_b rfl (.tmp 11) (.tmp 22) rfl w wr.drew _ F (by rfl) HO1.out HQ1.out [gB hexd ((gB l k).toNat / 16), gB hexd ((gB l k).toNat % 16)] 2 rfl (by rfl) (by rw [HLK.out]; omega) ?_; intro v9 w9 hown9 hq9 _; have HO9 := Lib.hid hown9; have HQ9 := Lib.hid hq9; clear hown9 hq9)
      go_roundw
      case rel => exact ⟨k + 1, by omega, by go_num, by rw [HSN.out]; exact HO9.out, HQ9.out⟩
      case measure => simp [intOf]; omega
    · obtain rfl : k = l.length := by omega
      have hd : decide (l.length < l.length) = false := by simp
      rw [List.take_length] at hO
      have hcv := conv_b hO
      have HQ := Lib.hid hq
      clear hO hq
      go_wp2_with fail
      go_ret
      exact ⟨rfl, HQ.out⟩
end Go.Proofs.Yteadblkkbbhpjaa
