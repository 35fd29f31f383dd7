/- The reference's Base64. -/
import Derived.Test.YteadblkkbbhpjaaRfF
set_option linter.unusedVariables false
namespace Go.Proofs.Yteadblkkbbhpjaa
open Go Go.RowKit
def w24k (r : List UInt8) : Nat → Nat
  | 0 => 0
  | k + 1 => 256 * w24k r k + (gB r k).toNat
theorem w24k_3 (r : List UInt8) : w24k r 3 = w24 r := by unfold w24 w24k w24k w24k w24k; omega
theorem w24k_bd (r : List UInt8) (k : Nat) (h : k ≤ 3) : w24k r k < 16777216 := by
  have a := (gB r 0).toNat_lt
  have b := (gB r 1).toNat_lt
  have c := (gB r 2).toNat_lt
  match k with
  | 0 => simp [w24k]
  | 1 => simp only [w24k]; omega
  | 2 => simp only [w24k]; omega
  | 3 => simp only [w24k]; omega
theorem gB_drop (l : List UInt8) (a k : Nat) : gB (l.drop a) k = gB l (a + k) := by simp [gB, List.getD]
theorem gB_out (l : List UInt8) (a : Nat) (h : l.length ≤ a) : gB l a = 0 := by simp [gB, List.getD, h]
theorem fourL_3 (r : List UInt8) (h : 3 ≤ r.length) : fourL r = four0 (w24 r) := by
  unfold fourL
  rw [show (r.take 3).length = 3 from by rw [List.length_take]; omega]
  simp [four0]
theorem fourL_2 (r : List UInt8) (h : r.length = 2) : fourL r = (four0 (w24 r)).set 3 61 := by
  unfold fourL
  rw [show (r.take 3).length = 2 from by rw [List.length_take]; omega]
  simp [four0, List.set]
theorem fourL_1 (r : List UInt8) (h : r.length = 1) : fourL r = ((four0 (w24 r)).set 3 61).set 2 61 := by
  unfold fourL
  rw [show (r.take 3).length = 1 from by rw [List.length_take]; omega]
  simp [four0, List.set, List.replicate]
set_option maxRecDepth 100000 in
set_option maxHeartbeats 4000000 in
theorem RBase64_any (l : List UInt8) (w : World) (hl : l.length ≤ 105553116266000) : Calls Try.prog 34 #[.string ⟨l.toArray⟩] w fun e w' => e = .returned (.string ⟨(base64L l).toArray⟩) ∧ Q w w' := by
  go_enter Try.func34, Try.ntmps34
  go_wp2_with fail
  go_loopw [3, 4] (fun v i wr => ∃ (j at_ : Nat), at_ = 3 * j ∧ at_ ≤ l.length + 2 ∧ i = .int .i64 at_ ∧ OwnB w wr v (b64L l j) ∧ Q w wr) (fun _ i _ => l.length - (intOf i).toNat)
  case atStart => exact ⟨0, 0, rfl, by omega, rfl, OwnB.nil _ _, Q.refl _⟩
  case round =>
    obtain ⟨j, at_, hat, hj, rfl, hO, hq⟩ := hrel
    by_cases h0 : at_ < l.length
    · have hd0 : decide (at_ < l.length) = true := by simpa using h0
      have hlr : (l.drop at_).length = l.length - at_ := by simp
      have hbs := b64L_succ l j
      have hbl := b64L_length l j
      rw [← hat] at hbs
      have hgr : Hid (∀ k, gB (l.drop at_) k = gB l (at_ + k)) := Lib.hid (gB_drop l at_)
      generalize hr : l.drop at_ = r at *
      have HO := Lib.hid hO
      have HQ := Lib.hid hq
      have HLR := Lib.hid hlr
      have HBS := Lib.hid hbs
      have HBL := Lib.hid hbl
      have HR := Lib.hid hr
      have HAT := Lib.hid hat
      clear hO hq hlr hbs hbl hr hat
      go_wp2_with fail
      go_loop [5, 6] (fun n k => ∃ K : Nat, K ≤ 3 ∧ k = .int .i64 K ∧ n = .int .i64 (w24k r K : Nat)) (fun _ k => 3 - (intOf k).toNat)
      case atStart => exact ⟨0, by omega, rfl, rfl⟩
      case round =>
        obtain ⟨k, hk, rfl, rfl⟩ := hrel
        by_cases hk3 : k < 3
        · have hd3 : decide ((k : Int) < 3) = true := by simp; omega
          have hb := w24k_bd r k hk
          have hb1 := w24k_bd r (k + 1) (by omega)
          have hs : w24k r (k + 1) = 256 * w24k r k + (gB r k).toNat := rfl
          rw [hgr.out k] at hs
          have e1 : ((at_ : Int) + (k : Int)).toNat = at_ + k := by omega
          have e2 : 0 ≤ (at_ : Int) + (k : Int) := by omega
          have hbg := gB_lt l (at_ + k)
          by_cases hin : at_ + k < l.length
          · have hd : decide ((at_ : Int) + (k : Int) < (l.length : Int)) = true := by simp; omega
            have e3 : (at_ : Int) + (k : Int) < (l.length : Int) := by omega
            generalize hY : w24k r (k + 1) = Y at *
            have HY := Lib.hid hY
            clear hY
            generalize w24k r k = X at *
            have hs2 : (Y : Int) = 256 * (X : Int) + ((gB l (at_ + k)).toNat : Int) := by omega
            have HS := Lib.hid hs2
            clear hs hs2
            go_wp2_with fail
            go_round
            case rel => exact ⟨k + 1, by omega, by go_num, by rw [HY.out, HS.out]⟩
            case measure => simp [intOf]; omega
          · have hd : decide ((at_ : Int) + (k : Int) < (l.length : Int)) = false := by simp; omega
            have h0g : gB l (at_ + k) = 0 := gB_out l _ (by omega)
            rw [h0g] at hs
            generalize hY : w24k r (k + 1) = Y at *
            have HY := Lib.hid hY
            clear hY
            generalize w24k r k = X at *
            have hs2 : (Y : Int) = 256 * (X : Int) := by simp at hs; omega
            have HS := Lib.hid hs2
            clear hs hs2 hbg h0g
            go_wp2_with fail
            go_round
            case rel => exact ⟨k + 1, by omega, by go_num, by rw [HY.out, HS.out]⟩
            case measure => simp [intOf]; omega
        · obtain rfl : k = 3 := by omega
          rw [show ((3 : Nat) : Int) = 3 from rfl]
          have hd3 : decide ((3 : Int) < 3) = false := by decide
          rw [w24k_3]
          have hwb : w24 r < 16777216 := by rw [← w24k_3]; exact w24k_bd r 3 (by omega)
          have hf3 := fourL_3 r
          have hf2 := fourL_2 r
          have hf1 := fourL_1 r
          have hl4 := fourL_length r
          generalize w24 r = WN at *
          have HF3 := Lib.hid hf3
          have HF2 := Lib.hid hf2
          have HF1 := Lib.hid hf1
          have HL4 := Lib.hid hl4
          clear hf3 hf2 hf1 hl4
          go_upto_region 12 with (fail)
          have i1 : (WN : Int) / 262144 < 64 := by omega
          have i2 : (0 : Int) ≤ (WN : Int) / 262144 := by omega
          have i3 : (WN : Int) / 4096 % 64 < 64 := by omega
          have i4 : (0 : Int) ≤ (WN : Int) / 4096 % 64 := by omega
          have i5 : (WN : Int) / 64 % 64 < 64 := by omega
          have i6 : (0 : Int) ≤ (WN : Int) / 64 % 64 := by omega
          have i7 : (WN : Int) % 64 < 64 := by omega
          have i8 : (0 : Int) ≤ (WN : Int) % 64 := by omega
          have n1 : ((WN : Int) / 262144).toNat = WN / 262144 := by omega
          have n2 : ((WN : Int) / 4096 % 64).toNat = WN / 4096 % 64 := by omega
          have n3 : ((WN : Int) / 64 % 64).toNat = WN / 64 % 64 := by omega
          have n4 : ((WN : Int) % 64).toNat = WN % 64 := by omega
          refine wp_region_pure [0, 1, 2, 3, 4, 5, 6, 7, 8, 9, 10, 11, 12, 13] [14, 15] (by kernel_rfl) (by kernel_rfl) (by intro c a d v w h; cases d <;> exact h) ?_
          simp only [List.map_cons, List.map_nil, Array.getD_eq_getD_getElem?, List.getElem?_toArray, List.getElem?_cons_succ, List.getElem?_cons_zero, Option.getD_some]
          (repeat (go_big_quiet_step (fail)))
          refine wpQuiet_nil ?_
          clear i1 i2 i3 i4 i5 i6 i7 i8 n1 n2 n3 n4
          go_upto_region 13 with (fail)
          obtain ⟨w7, hw7, hF7, hq7⟩ : ∃ w7, w7 = (wr.alloc (.cells (arrB (four0 WN)) 5)).drew ∧ RowT 5 w7 wr.heap.size (four0 WN) ∧ Q wr w7 := ⟨_, rfl, heap_alloc_new wr _, ((Q.refl wr).alloc _).drew⟩
          refine Eq.mp (congrArg _ hw7) ?_
          clear hw7
          obtain ⟨g, hg⟩ : ∃ g, g = wr.heap.size := ⟨_, rfl⟩
          rw [← hg] at hF7 ⊢
          have hgw : w.heap.size ≤ g := by rw [hg]; exact HQ.out.size
          have c2 := hF7.cell 2 (by simp [four0])
          have c3 := hF7.cell 3 (by simp [four0])
          have f2 := hF7.frozen 2
          have f3 := hF7.frozen 3
          have HF7 := Lib.hid hF7
          have HQ7 := Lib.hid (HQ.out.trans hq7)
          have HO7 := Lib.hid (HO.out.q hq7)
          have HQR := Lib.hid hq7
          have hgwr : wr.heap.size ≤ g := by omega
          clear hF7 hq7 hg
          by_cases hr3 : 3 ≤ l.length - at_
          · have t1 : decide ((l.length : Int) - (at_ : Int) < 3) = false := by simp; omega
            have t2 : decide ((l.length : Int) - (at_ : Int) < 2) = false := by simp; omega
            have t1b : decide ((l.length : Int) < 3 + (at_ : Int)) = false := by simp; omega
            have hfe : fourL r = four0 WN := HF3.out (by rw [HLR.out]; exact hr3)
            obtain ⟨w8, rfl⟩ : ∃ w8, w8 = w7 := ⟨_, rfl⟩
            have HF8 : Hid (RowT 5 w8 g (fourL r)) := Lib.hid (by rw [hfe]; exact HF7.out)
            have HQ8 := HQ7
            have HO8 := HO7
            have HCC : Hid (∀ j (h : j < (fourL r).length), w8.cell? ((⟨g, 0, none⟩ : Addr).add j) = some (u8V (fourL r)[j])) := Lib.hid fun j h => by rw [add_off, Nat.zero_add, HF8.out.cell j h]; simp [u8V, gB, List.getD, h]
            clear hfe
            go_wp2_with (at_builtin; refine wpList_append_from rfl (.tmp 63) (.tmp 64) rfl w w8 _ (b64L l j) (by rfl) HO8.out HQ8.out ⟨g, 0, none⟩ (fourL r) 4 4 HL4.out (by rfl) HCC.out (by rw [HBL.out]; have := HAT.out; omega) ?_; intro v9 w9 hown9 hq9 _; have HO9 := Lib.hid hown9; have HQ9 := Lib.hid hq9; clear hown9 hq9)
            go_roundw
            case rel => exact ⟨j + 1, at_ + 3, by rw [HAT.out]; omega, by omega, by go_num, by rw [HBS.out]; exact HO9.out, HQ9.out⟩
            case measure => simp [intOf]; omega
          · by_cases hr2 : l.length - at_ = 2
            · have t1 : decide ((l.length : Int) - (at_ : Int) < 3) = true := by simp; omega
              have t2 : decide ((l.length : Int) - (at_ : Int) < 2) = false := by simp; omega
              have hfe : fourL r = (four0 WN).set 3 61 := HF2.out (by rw [HLR.out]; exact hr2)
              go_upto_region 17 with (fail)
              clear c2 c3 f2 f3
              obtain ⟨w8, hw8, hF8, hq8⟩ : ∃ w8, w8 = w7.setCell ⟨g, 3, none⟩ (.int .u8 61) ∧ RowT 5 w8 g (fourL r) ∧ Q w w8 := ⟨_, rfl, by rw [hfe]; exact HF7.out.set 3 61, HQ7.out.setNew hgw _⟩
              have HO8 : Hid (OwnB w w8 u3 (b64L l j)) := Lib.hid (by rw [hw8]; exact HO.out.q (HQR.out.setNew hgwr _))
              refine Eq.mp (congrArg _ hw8) ?_
              clear hw8
              have HF8 := Lib.hid hF8
              have HQ8 := Lib.hid hq8
              clear hF8 hq8
              have HCC : Hid (∀ j (h : j < (fourL r).length), w8.cell? ((⟨g, 0, none⟩ : Addr).add j) = some (u8V (fourL r)[j])) := Lib.hid fun j h => by rw [add_off, Nat.zero_add, HF8.out.cell j h]; simp [u8V, gB, List.getD, h]
              clear hfe
              go_wp2_with (at_builtin; refine wpList_append_from rfl (.tmp 63) (.tmp 64) rfl w w8 _ (b64L l j) (by rfl) HO8.out HQ8.out ⟨g, 0, none⟩ (fourL r) 4 4 HL4.out (by rfl) HCC.out (by rw [HBL.out]; have := HAT.out; omega) ?_; intro v9 w9 hown9 hq9 _; have HO9 := Lib.hid hown9; have HQ9 := Lib.hid hq9; clear hown9 hq9)
              go_roundw
              case rel => exact ⟨j + 1, at_ + 3, by rw [HAT.out]; omega, by omega, by go_num, by rw [HBS.out]; exact HO9.out, HQ9.out⟩
              case measure => simp [intOf]; omega
            · have t1 : decide ((l.length : Int) - (at_ : Int) < 3) = true := by simp; omega
              have t2 : decide ((l.length : Int) - (at_ : Int) < 2) = true := by simp; omega
              have hfe : fourL r = ((four0 WN).set 3 61).set 2 61 := HF1.out (by rw [HLR.out]; omega)
              go_upto_region 17 with (fail)
              clear c2 c3 f2 f3
              obtain ⟨w8, hw8, hF8, hq8⟩ : ∃ w8, w8 = (w7.setCell ⟨g, 3, none⟩ (.int .u8 61)).setCell ⟨g, 2, none⟩ (.int .u8 61) ∧ RowT 5 w8 g (fourL r) ∧ Q w w8 := ⟨_, rfl, by rw [hfe]; exact (HF7.out.set 3 61).set 2 61, (HQ7.out.setNew hgw _).setNew hgw _⟩
              have HO8 : Hid (OwnB w w8 u3 (b64L l j)) := Lib.hid (by rw [hw8]; exact HO.out.q ((HQR.out.setNew hgwr _).setNew hgwr _))
              refine Eq.mp (congrArg _ hw8) ?_
              clear hw8
              have HF8 := Lib.hid hF8
              have HQ8 := Lib.hid hq8
              clear hF8 hq8
              have HCC : Hid (∀ j (h : j < (fourL r).length), w8.cell? ((⟨g, 0, none⟩ : Addr).add j) = some (u8V (fourL r)[j])) := Lib.hid fun j h => by rw [add_off, Nat.zero_add, HF8.out.cell j h]; simp [u8V, gB, List.getD, h]
              clear hfe
              go_wp2_with (at_builtin; refine wpList_append_from rfl (.tmp 63) (.tmp 64) rfl w w8 _ (b64L l j) (by rfl) HO8.out HQ8.out ⟨g, 0, none⟩ (fourL r) 4 4 HL4.out (by rfl) HCC.out (by rw [HBL.out]; have := HAT.out; omega) ?_; intro v9 w9 hown9 hq9 _; have HO9 := Lib.hid hown9; have HQ9 := Lib.hid hq9; clear hown9 hq9)
              go_roundw
              case rel => exact ⟨j + 1, at_ + 3, by rw [HAT.out]; omega, by omega, by go_num, by rw [HBS.out]; exact HO9.out, HQ9.out⟩
              case measure => simp [intOf]; omega
    · have hd0 : decide (at_ < l.length) = false := by simpa using h0
      have hbb : b64L l j = base64L l := by rw [show j = (l.length + 2) / 3 from by omega]; rfl
      rw [hbb] at hO
      have hcv := conv_b hO
      have HQ := Lib.hid hq
      clear hO hq hbb hat
      go_wp2_with fail
      go_ret
      exact ⟨rfl, HQ.out⟩
end Go.Proofs.Yteadblkkbbhpjaa
