/- Texts of this proof, laid into one: VaD, UrS, UrJ, UrK. -/
import Derived.Test.YtlalpnnnnmcejaaGreatDoorMx03
import Derived.Shelf.SlSortCmp.WholeK
import Derived.Shelf.SlSortCmp.NoneTotal
import Derived.Maps.AppendAt
/- The document's free, Encode, digit, Decode. -/
set_option linter.unusedVariables false
set_option linter.unusedSimpArgs false
namespace Go.Proofs.YtlalpnnnnmcejaaGreatDoor
open Go Go.RowKit
def hexV (b : UInt8) : Int := if digV b ≤ 15 then (digV b : Int) else -1
theorem hex_facts : ∀ b : UInt8, hexV b = (if 48 ≤ b.toNat ∧ b.toNat ≤ 57 then (b.toNat : Int) - 48 else if 65 ≤ b.toNat ∧ b.toNat ≤ 70 then (b.toNat : Int) - 65 + 10 else if 97 ≤ b.toNat ∧ b.toNat ≤ 102 then (b.toNat : Int) - 97 + 10 else -1) := by
  have h : ∀ n : Fin 256, hexV n.val.toUInt8 = (if 48 ≤ n.val.toUInt8.toNat ∧ n.val.toUInt8.toNat ≤ 57 then (n.val.toUInt8.toNat : Int) - 48 else if 65 ≤ n.val.toUInt8.toNat ∧ n.val.toUInt8.toNat ≤ 70 then (n.val.toUInt8.toNat : Int) - 65 + 10 else if 97 ≤ n.val.toUInt8.toNat ∧ n.val.toUInt8.toNat ≤ 102 then (n.val.toUInt8.toNat : Int) - 97 + 10 else -1) := by decide +kernel
  intro b
  have := h ⟨b.toNat, b.toNat_lt⟩
  simpa using this
def hexAt (l : List UInt8) (i : Nat) : Int := if i < l.length then hexV (gB l i) else -1
theorem hexV_bd (b : UInt8) : -1 ≤ hexV b ∧ hexV b ≤ 15 ∧ (0 ≤ hexV b ↔ digV b ≤ 15) ∧ (digV b ≤ 15 → hexV b = digV b) := by
  unfold hexV; split <;> simp_all <;> omega
def rdecOut (l : List UInt8) : List UInt8 × Int := match (decR l).2 with | none => ((decR l).1, -1) | some k => ([], (k : Int))
set_option maxRecDepth 100000 in
set_option maxHeartbeats 4000000 in
theorem RFree_any (b : UInt8) (w : World) :
    Calls Tryz.prog 30 #[.int .u8 b.toNat] w fun e w' => e = .returned (.bool (freeL true b)) ∧ w' = w := by
  have hf : (freeL true b = true) = (65 ≤ b.toNat ∧ b.toNat ≤ 90 ∨ 97 ≤ b.toNat ∧ b.toNat ≤ 122 ∨ 48 ≤ b.toNat ∧ b.toNat ≤ 57 ∨ b.toNat = 45 ∨ b.toNat = 46 ∨ b.toNat = 95 ∨ b.toNat = 126) := by
    have h : ∀ n : Fin 256, (freeL true n.val.toUInt8 = true) = (65 ≤ n.val.toUInt8.toNat ∧ n.val.toUInt8.toNat ≤ 90 ∨ 97 ≤ n.val.toUInt8.toNat ∧ n.val.toUInt8.toNat ≤ 122 ∨ 48 ≤ n.val.toUInt8.toNat ∧ n.val.toUInt8.toNat ≤ 57 ∨ n.val.toUInt8.toNat = 45 ∨ n.val.toUInt8.toNat = 46 ∨ n.val.toUInt8.toNat = 95 ∨ n.val.toUInt8.toNat = 126) := by
      have h2 : ∀ n : Fin 256, (freeL true n.val.toUInt8 = true) ↔ (65 ≤ n.val.toUInt8.toNat ∧ n.val.toUInt8.toNat ≤ 90 ∨ 97 ≤ n.val.toUInt8.toNat ∧ n.val.toUInt8.toNat ≤ 122 ∨ 48 ≤ n.val.toUInt8.toNat ∧ n.val.toUInt8.toNat ≤ 57 ∨ n.val.toUInt8.toNat = 45 ∨ n.val.toUInt8.toNat = 46 ∨ n.val.toUInt8.toNat = 95 ∨ n.val.toUInt8.toNat = 126) := by decide +kernel
      exact fun n => propext (h2 n)
    have := h ⟨b.toNat, b.toNat_lt⟩
    simp only [UInt8.ofNat_toNat, Nat.toUInt8_eq] at this
    exact this
  have HF := Lib.hid hf
  clear hf
  generalize hn : b.toNat = n at HF
  have hb : n < 256 := by rw [← hn]; exact b.toNat_lt
  go_enter Tryz.func30, Tryz.ntmps30
  go_wp2_with fail
  all_goals
    go_ret
    refine ⟨?_, rfl⟩
    show Ending.returned (.bool _) = .returned (.bool _)
    refine congrArg _ (congrArg _ ?_)
    rw [Bool.eq_iff_iff, HF.out]
    try simp only [Bool.or_eq_true, Bool.and_eq_true, decide_eq_true_eq, beq_iff_eq, true_iff, iff_true, Bool.true_or, Bool.or_true, Bool.false_or, Bool.or_false, Bool.true_and, Bool.false_and, Bool.and_true, Bool.and_false, reduceCtorEq, false_iff, iff_false]
    try omega
theorem RDigit_any (l : List UInt8) (i : Nat) (w : World) (hl : l.length ≤ 100000000) (hi : i ≤ 100000010) :
    Calls Tryz.prog 25 #[.string ⟨l.toArray⟩, .int .i64 (i : Int)] w fun e w' => e = .returned (.int .i64 (hexAt l i)) ∧ w' = w := by
  by_cases h : i < l.length
  · have h1 : decide (l.length ≤ i) = false := by simp; omega
    have HX : Hid (hexAt l i = hexV (gB l i)) := Lib.hid (by unfold hexAt; rw [if_pos h])
    have HF := Lib.hid (hex_facts (gB l i))
    have hb := (gB l i).toNat_lt
    go_enter Tryz.func25, Tryz.ntmps25
    go_wp2_with fail
    all_goals
      go_ret
      refine ⟨?_, rfl⟩
      rw [HX.out, HF.out]
      show Ending.returned (.int .i64 _) = .returned (.int .i64 _)
      refine ret_int ?_
      first | omega | (repeat' split) <;> omega
  · have HX : Hid (hexAt l i = -1) := Lib.hid (by unfold hexAt; rw [if_neg h])
    have h1 : decide (l.length ≤ i) = true := by simp; omega
    go_enter Tryz.func25, Tryz.ntmps25
    go_wp2_with fail
    all_goals
      go_ret
      exact ⟨by rw [HX.out]; rfl, rfl⟩
theorem lit_caps (k : Nat) (h : k < 16) : gB [48, 49, 50, 51, 52, 53, 54, 55, 56, 57, 65, 66, 67, 68, 69, 70] k = gB capsL k := rfl
set_option maxRecDepth 100000 in
set_option maxHeartbeats 4000000 in
theorem REncode_any (l : List UInt8) (sl : Bool) (w : World) (hl : l.length ≤ 100000000) :
    Calls Tryz.prog 12 #[.string ⟨l.toArray⟩, .bool sl] w fun e w' => e = .returned (.string ⟨(encL sl l).toArray⟩) ∧ Q w w' := by
  go_enter Tryz.func12, Tryz.ntmps12
  go_wp2_with fail
  go_loopw [5, 6] (fun v i wr => ∃ k : Nat, k ≤ l.length ∧ i = .int .i64 k ∧ OwnB w wr v (encL sl (l.take k)) ∧ Q w wr) (fun _ i _ => l.length - (intOf i).toNat)
  case atStart => exact ⟨0, by omega, rfl, OwnB.nil _ _, Q.refl _⟩
  case round =>
    obtain ⟨k, hk, rfl, hO, hq⟩ := hrel
    by_cases hlt : k < l.length
    · have hd : decide (k < l.length) = true := by simpa using hlt
      have HT : Hid (encL sl (l.take (k + 1)) = encL sl (l.take k) ++ encB sl (gB l k)) := by rw [take_snocB l k hlt]; exact Lib.hid (encL_snoc _ _ _)
      have HE := Lib.hid (encL_le sl (l.take k))
      have HLT : Hid ((l.take k).length ≤ 100000000) := Lib.hid (by rw [List.length_take]; omega)
      generalize encL sl (l.take k) = F at *
      have hcn := (gB l k).toNat_lt
      have HO := Lib.hid hO
      have HQ := Lib.hid hq
      clear hO hq
      have hfl : freeL sl (gB l k) = (freeL true (gB l k) || ((gB l k) == 47 && !sl)) := by unfold freeL; cases sl <;> simp
      have HFL := Lib.hid hfl
      clear hfl
      have HPlain : Hid (freeL sl (gB l k) = true → encL sl (l.take (k + 1)) = F ++ [gB l k]) := Lib.hid (fun h => by rw [HT.out]; unfold encB; rw [if_pos h])
      have HEsc : Hid (freeL sl (gB l k) = false → encL sl (l.take (k + 1)) = F ++ [37, gB capsL ((gB l k).toNat / 16), gB capsL ((gB l k).toNat % 16)]) := Lib.hid (fun h => by rw [HT.out]; unfold encB escL; rw [h]; rfl)
      obtain ⟨B, hB⟩ : ∃ B, gB l k = B := ⟨_, rfl⟩
      rw [hB] at HT HFL HPlain HEsc hcn
      have HTR : Hid (encL sl (l.take (k + 1)) = F ++ (if freeL true B = true ∨ (B = 47 ∧ sl = false) then [B] else [37, gB capsL (B.toNat / 16), gB capsL (B.toNat % 16)])) := Lib.hid (by
        rw [HT.out]; unfold encB escL; rw [HFL.out]
        rcases freeL true B with _ | _ <;> rcases sl with _ | _ <;> simp)
      clear HPlain HEsc HT HFL
      go_upto_region 5 with (fail)
      go_wp2_with fail
      refine (RFree_any _ _).mono ?_
      rintro e wx ⟨rfl, rfl⟩
      rcases hf : freeL true B with _ | _
      · rw [hf] at HTR
        by_cases h47 : B = 47
        · have h47e : ((B.toNat : Int) == 47) = true := by rw [h47]; rfl
          rcases sl with _ | _
          · have HTK : Hid (encL false (l.take (k + 1)) = F ++ [B]) := Lib.hid (by rw [HTR.out, if_pos (.inr ⟨h47, rfl⟩)])
            clear HTR h47 hf
            go_upto_region 7 with (fail)
            go_wp2_with (at_builtin; refine wpList_append_b rfl (.tmp 29) (.tmp 33) rfl w _ _ _ rfl HO.out HQ.out [B] 1 rfl rfl (by have h1 := HE.out; have h2 := HLT.out; constructor <;> omega) ?_)
            intro v2 w2 ho2 hq2 _ _
            have HO2 := Lib.hid ho2
            have HQ2 := Lib.hid hq2
            clear ho2 hq2 HO HQ
            go_wp2_with fail
            go_roundw
            case rel => exact ⟨k + 1, by omega, by go_num, by rw [HTK.out]; exact HO2.out, HQ2.out⟩
            case measure => simp [intOf]; omega
          · have HTK : Hid (encL true (l.take (k + 1)) = F ++ [37, gB capsL (B.toNat / 16), gB capsL (B.toNat % 16)]) := Lib.hid (by rw [HTR.out, if_neg (by simp)])
            clear HTR h47 hf
            go_upto_region 8 with (fail)
            have i1 : (B.toNat : Int) / 16 < 16 := by omega
            have i2 : (0 : Int) ≤ (B.toNat : Int) / 16 := by omega
            have i3 : (B.toNat : Int) % 16 < 16 := by omega
            have i4 : (0 : Int) ≤ (B.toNat : Int) % 16 := by omega
            have n1 : ((B.toNat : Int) / 16).toNat = B.toNat / 16 := by omega
            have n2 : ((B.toNat : Int) % 16).toNat = B.toNat % 16 := by omega
            refine wp_region_pure [0, 1, 2, 3, 4, 5, 6, 7, 8, 9, 10] [11, 12, 13] (by kernel_rfl) (by kernel_rfl) (by intro c a d v w h; cases d <;> exact h) ?_
            simp only [List.map_cons, List.map_nil, Array.getD_eq_getD_getElem?, List.getElem?_toArray, List.getElem?_cons_succ, List.getElem?_cons_zero, Option.getD_some]
            (repeat (go_big_quiet_step (fail)))
            refine wpQuiet_nil ?_
            clear i1 i2 i3 i4 n1 n2
            have HO1 := Lib.hid (HO.out.q (Q.refl wx).drew)
            have HQ1 := Lib.hid HQ.out.drew
            go_wp2_with (at_builtin; refine wpList_append_b rfl (.tmp 35) (.tmp 46) rfl w wx.drew _ F (by rfl) HO1.out HQ1.out [37, gB capsL (B.toNat / 16), gB capsL (B.toNat % 16)] 3 rfl (by rfl) (by have h1 := HE.out; have h2 := HLT.out; constructor <;> omega) ?_; intro v9 w9 hown9 hq9 _; have HO9 := Lib.hid hown9; have HQ9 := Lib.hid hq9; clear hown9 hq9)
            go_roundw
            case rel => exact ⟨k + 1, by omega, by go_num, by rw [HTK.out]; exact HO9.out, HQ9.out⟩
            case measure => simp [intOf]; omega
        · have h47e : ((B.toNat : Int) == 47) = false := by
            rw [beq_eq_false_iff_ne]; intro h; exact h47 (UInt8.toNat_inj.1 (show B.toNat = 47 by omega))
          have h47f : ¬ (B.toNat : Int) = 47 := by simpa using h47e
          · have HTK : Hid (encL sl (l.take (k + 1)) = F ++ [37, gB capsL (B.toNat / 16), gB capsL (B.toNat % 16)]) := Lib.hid (by rw [HTR.out, if_neg (by simp [h47])])
            clear HTR h47 hf
            go_upto_region 8 with (fail)
            have i1 : (B.toNat : Int) / 16 < 16 := by omega
            have i2 : (0 : Int) ≤ (B.toNat : Int) / 16 := by omega
            have i3 : (B.toNat : Int) % 16 < 16 := by omega
            have i4 : (0 : Int) ≤ (B.toNat : Int) % 16 := by omega
            have n1 : ((B.toNat : Int) / 16).toNat = B.toNat / 16 := by omega
            have n2 : ((B.toNat : Int) % 16).toNat = B.toNat % 16 := by omega
            refine wp_region_pure [0, 1, 2, 3, 4, 5, 6, 7, 8, 9, 10] [11, 12, 13] (by kernel_rfl) (by kernel_rfl) (by intro c a d v w h; cases d <;> exact h) ?_
            simp only [List.map_cons, List.map_nil, Array.getD_eq_getD_getElem?, List.getElem?_toArray, List.getElem?_cons_succ, List.getElem?_cons_zero, Option.getD_some]
            (repeat (go_big_quiet_step (fail)))
            refine wpQuiet_nil ?_
            clear i1 i2 i3 i4 n1 n2
            have HO1 := Lib.hid (HO.out.q (Q.refl wx).drew)
            have HQ1 := Lib.hid HQ.out.drew
            go_wp2_with (at_builtin; refine wpList_append_b rfl (.tmp 35) (.tmp 46) rfl w wx.drew _ F (by rfl) HO1.out HQ1.out [37, gB capsL (B.toNat / 16), gB capsL (B.toNat % 16)] 3 rfl (by rfl) (by have h1 := HE.out; have h2 := HLT.out; constructor <;> omega) ?_; intro v9 w9 hown9 hq9 _; have HO9 := Lib.hid hown9; have HQ9 := Lib.hid hq9; clear hown9 hq9)
            go_roundw
            case rel => exact ⟨k + 1, by omega, by go_num, by rw [HTK.out]; exact HO9.out, HQ9.out⟩
            case measure => simp [intOf]; omega
      · rw [hf] at HTR
        have HTK : Hid (encL sl (l.take (k + 1)) = F ++ [B]) := Lib.hid (by rw [HTR.out, if_pos (.inl rfl)])
        clear HTR hf
        · · go_upto_region 7 with (fail)
            go_wp2_with (at_builtin; refine wpList_append_b rfl (.tmp 29) (.tmp 33) rfl w _ _ _ rfl HO.out HQ.out [B] 1 rfl rfl (by have h1 := HE.out; have h2 := HLT.out; constructor <;> omega) ?_)
            intro v2 w2 ho2 hq2 _ _
            have HO2 := Lib.hid ho2
            have HQ2 := Lib.hid hq2
            clear ho2 hq2 HO HQ
            go_wp2_with fail
            go_roundw
            case rel => exact ⟨k + 1, by omega, by go_num, by rw [HTK.out]; exact HO2.out, HQ2.out⟩
            case measure => simp [intOf]; omega
    · obtain rfl : k = l.length := by omega
      rw [List.take_length] at hO
      have hcv := conv_b hO
      go_wp2_with fail
      go_ret
      exact ⟨rfl, hq⟩
theorem RDec_bad {l : List UInt8} {k : Nat} {o : List UInt8} (h : DecAt l k o) (hk : k < l.length) (hc : gB l k = 37) (hs : hexAt l (k + 1) < 0 ∨ hexAt l (k + 2) < 0) : (decR l).2 = some k := by
  by_cases hsh : l.length < k + 3
  · exact h.short hk hc hsh
  · refine h.bad (by omega) hc ?_
    unfold hexAt at hs
    rw [if_pos (by omega), if_pos (by omega)] at hs
    have a := hexV_bd (gB l (k + 1))
    have b := hexV_bd (gB l (k + 2))
    omega
theorem RDec_good {l : List UInt8} {k : Nat} {o : List UInt8} (h : DecAt l k o) (hc : gB l k = 37) (h1 : ¬ hexAt l (k + 1) < 0) (h2 : ¬ hexAt l (k + 2) < 0) :
    ∃ C : UInt8, k + 3 ≤ l.length ∧ (C.toNat : Int) = 16 * hexAt l (k + 1) + hexAt l (k + 2) ∧ hexAt l (k + 1) ≤ 15 ∧ hexAt l (k + 2) ≤ 15 ∧ DecAt l (k + 3) (o ++ [C]) := by
  have hl2 : k + 2 < l.length := by
    refine Decidable.byContradiction fun hn => h2 ?_
    unfold hexAt; rw [if_neg hn]; omega
  have a := hexV_bd (gB l (k + 1))
  have b := hexV_bd (gB l (k + 2))
  have e1 : hexAt l (k + 1) = hexV (gB l (k + 1)) := by unfold hexAt; rw [if_pos (by omega)]
  have e2 : hexAt l (k + 2) = hexV (gB l (k + 2)) := by unfold hexAt; rw [if_pos (by omega)]
  rw [e1] at h1
  rw [e2] at h2
  rw [e1, e2]
  refine ⟨_, by omega, ?_, by omega, by omega, h.esc (by omega) hc (by omega)⟩
  rw [UInt8.toNat_ofNat', a.2.2.2 (by omega), b.2.2.2 (by omega)]
  omega
set_option maxRecDepth 100000 in
set_option maxHeartbeats 2000000 in
theorem RDecode_any (l : List UInt8) (w : World) (hl : l.length ≤ 100000000) :
    Calls Tryz.prog 10 #[.string ⟨l.toArray⟩] w fun e w' => e = .returned (.tuple #[.string ⟨(rdecOut l).1.toArray⟩, .int .i64 (rdecOut l).2]) ∧ Q w w' := by
  go_enter Tryz.func10, Tryz.ntmps10
  go_wp2_with fail
  go_loopw [4, 5] (fun v i wr => ∃ (k : Nat) (o : List UInt8), k ≤ l.length ∧ i = .int .i64 k ∧ OwnB w wr v o ∧ o.length ≤ k ∧ Hid (DecAt l k o) ∧ Q w wr) (fun _ i _ => l.length - (intOf i).toNat)
  case atStart => exact ⟨0, [], by omega, rfl, OwnB.nil _ _, by simp, Lib.hid (DecAt.zero l), Q.refl _⟩
  case round =>
    obtain ⟨k, o, hk, rfl, hO, ho, HD, hq⟩ := hrel
    by_cases hlt : k < l.length
    · have hd : decide (k < l.length) = true := by simpa using hlt
      have HO := Lib.hid hO
      have HQ := Lib.hid hq
      clear hO hq
      by_cases hc : gB l k = 37
      · have hcn : (gB l k).toNat = 37 := by rw [hc]; rfl
        have HRD : Hid (∀ (i : Nat) (W : World), i ≤ 100000010 → Calls Tryz.prog 25 #[.string ⟨l.toArray⟩, .int .i64 (i : Int)] W fun e w' => e = .returned (.int .i64 (hexAt l i)) ∧ w' = W) := Lib.hid (fun i W hi => RDigit_any l i W hl hi)
        have HC := Lib.hid hc
        have HBad := Lib.hid (RDec_bad HD.out hlt hc)
        have HGood := Lib.hid (RDec_good HD.out hc)
        have h1 := HRD.out (k + 1)
        have h2 := HRD.out (k + 2)
        clear HRD hc
        rw [show ((k + 1 : Nat) : Int) = (k : Int) + 1 by omega] at h1
        rw [show ((k + 2 : Nat) : Int) = (k : Int) + 2 by omega] at h2
        have H1 := Lib.hid h1
        have H2 := Lib.hid h2
        clear h1 h2
        generalize hexAt l (k + 1) = X at HBad HGood H1
        generalize hexAt l (k + 2) = Y at HBad HGood H2
        by_cases hx : X < 0
        · have HR := Lib.hid (HBad.out (.inl hx))
          go_wp2_with fail
          refine (H1.out _ (by omega)).mono ?_
          rintro e wx ⟨rfl, rfl⟩
          go_wp2_with fail
          refine (H2.out _ (by omega)).mono ?_
          rintro e wx ⟨rfl, rfl⟩
          go_wp2_with fail
          go_ret2
          refine ⟨?_, HQ.out⟩
          show Ending.returned (.tuple #[_, _]) = _
          simp [rdecOut, HR.out]
        · by_cases hy : Y < 0
          · have HR := Lib.hid (HBad.out (.inr hy))
            go_wp2_with fail
            refine (H1.out _ (by omega)).mono ?_
            rintro e wx ⟨rfl, rfl⟩
            go_wp2_with fail
            refine (H2.out _ (by omega)).mono ?_
            rintro e wx ⟨rfl, rfl⟩
            go_wp2_with fail
            go_ret2
            refine ⟨?_, HQ.out⟩
            show Ending.returned (.tuple #[_, _]) = _
            simp [rdecOut, HR.out]
          · obtain ⟨C, hk3, hcv, hx15, hy15, hdn⟩ := HGood.out hx hy
            have HDN := Lib.hid hdn
            have e3 : IntKind.u8.wrap (16 * X + Y) = (C.toNat : Int) := by rw [IntKind.wrap_u8, hcv]; omega
            clear hdn hcv HBad HGood HD
            go_wp2_with fail
            refine (H1.out _ (by omega)).mono ?_
            rintro e wx ⟨rfl, rfl⟩
            go_wp2_with fail
            refine (H2.out _ (by omega)).mono ?_
            rintro e wx ⟨rfl, rfl⟩
            clear H1 H2
            go_wp2_with (at_builtin; refine wpList_append_b rfl (.tmp 39) (.tmp 45) rfl w _ _ _ rfl HO.out HQ.out [C] 1 rfl rfl (by constructor <;> omega) ?_)
            intro v2 w2 ho2 hq2 _ _
            have HO2 := Lib.hid ho2
            have HQ2 := Lib.hid hq2
            clear ho2 hq2 HO HQ
            go_wp2_with fail
            go_roundw
            case rel => exact ⟨k + 3, _, by omega, by go_num, HO2.out, by simp; omega, HDN, HQ2.out⟩
            case measure => simp [intOf]; omega
      · have hcn : ¬ ((gB l k).toNat : Int) = 37 := fun h => hc (UInt8.toNat_inj.mp (show (gB l k).toNat = 37 by omega))
        have hce : (((gB l k).toNat : Int) == 37) = false := by simpa using hcn
        go_wp2_with (at_builtin; refine wpList_append_b rfl (.tmp 18) (.tmp 22) rfl w _ _ _ rfl HO.out HQ.out [gB l k] 1 rfl rfl (by constructor <;> omega) ?_)
        intro v2 w2 ho2 hq2 _ _
        have HO2 := Lib.hid ho2
        have HQ2 := Lib.hid hq2
        have HD2 := Lib.hid (HD.out.plain hlt hc)
        clear ho2 hq2 HO HQ HD
        go_wp2_with fail
        go_roundw
        case rel => exact ⟨k + 1, _, by omega, by go_num, HO2.out, by simp; omega, HD2, HQ2.out⟩
        case measure => simp [intOf]; omega
    · have hdd := HD.out.done (by omega)
      have hcv := conv_b hO
      go_wp2_with fail
      go_ret2
      refine ⟨?_, hq⟩
      show Ending.returned (.tuple #[_, _]) = _
      simp [rdecOut, hdd]
end Go.Proofs.YtlalpnnnnmcejaaGreatDoor
/- slices.SortFunc of pairs: the shelf's contract, laid at this seat by names (printed by genslf.py). -/
set_option linter.unusedVariables false
namespace Go.Proofs.YtlalpnnnnmcejaaGreatDoor
open Go Go.RowKit
def lUr_ren : Go.Shelf.Ren := ⟨fun | 6 => 35 | 14 => 51 | 15 => 52 | 20 => 72 | 21 => 73 | 22 => 74 | 23 => 75 | 24 => 76 | 25 => 77 | 26 => 78 | 27 => 79 | 28 => 80 | 29 => 81 | 46 => 99 | 47 => 100 | 48 => 101 | 49 => 102 | 50 => 103 | 57 => 111 | n => n, fun | 0 => 0 | 3 => 3 | 4 => 4 | 5 => 5 | 9 => 9 | 22 => 30 | 24 => 37 | 25 => 59 | 39 => 47 | 45 => 91 | 46 => 92 | 50 => 96 | 53 => 99 | 55 => 101 | 66 => 114 | 70 => 118 | 76 => 128 | 77 => 129 | n => n, fun n => n⟩
theorem lUr6 : Go.Proofs.SlLaysF0.n6 Tryz.prog lUr_ren := {
  mixed := by kernel_rfl
  f6 := ⟨Tryz.f35.name, by decide, Tryz.func35.trans (congrArg some (by kernel_rfl))⟩
  f14 := ⟨Tryz.f51.name, by decide, Tryz.func51.trans (congrArg some (by kernel_rfl))⟩
  f15 := Tryz.func52.trans (congrArg some (by kernel_rfl))
  f20 := ⟨Tryz.f72.name, by decide, Tryz.func72.trans (congrArg some (by kernel_rfl))⟩
  f21 := ⟨Tryz.f73.name, by decide, Tryz.func73.trans (congrArg some (by kernel_rfl))⟩
  f22 := ⟨Tryz.f74.name, by decide, Tryz.func74.trans (congrArg some (by kernel_rfl))⟩
  f23 := ⟨Tryz.f75.name, by decide, Tryz.func75.trans (congrArg some (by kernel_rfl))⟩
  f24 := ⟨Tryz.f76.name, by decide, Tryz.func76.trans (congrArg some (by kernel_rfl))⟩
  f25 := ⟨Tryz.f77.name, by decide, Tryz.func77.trans (congrArg some (by kernel_rfl))⟩
  f26 := ⟨Tryz.f78.name, by decide, Tryz.func78.trans (congrArg some (by kernel_rfl))⟩
  f27 := ⟨Tryz.f79.name, by decide, Tryz.func79.trans (congrArg some (by kernel_rfl))⟩
  f28 := Tryz.func80.trans (congrArg some (by kernel_rfl))
  f29 := Tryz.func81.trans (congrArg some (by kernel_rfl))
  f46 := ⟨Tryz.f99.name, by decide, Tryz.func99.trans (congrArg some (by kernel_rfl))⟩
  f47 := Tryz.func100.trans (congrArg some (by kernel_rfl))
  f48 := Tryz.func101.trans (congrArg some (by kernel_rfl))
  f49 := ⟨Tryz.f102.name, by decide, Tryz.func102.trans (congrArg some (by kernel_rfl))⟩
  f50 := ⟨Tryz.f103.name, by decide, Tryz.func103.trans (congrArg some (by kernel_rfl))⟩
  f57 := ⟨Tryz.f111.name, by decide, Tryz.func111.trans (congrArg some (by kernel_rfl))⟩
  t0 := Tryz.underlying0
  a0 := Tryz.isAgg0
  z0 := Tryz.sizeOf0
  v0 := Tryz.zeroValue0
  t3 := Tryz.underlying3
  a3 := Tryz.isAgg3
  z3 := Tryz.sizeOf3
  v3 := Tryz.zeroValue3
  t4 := Tryz.underlying4
  a4 := Tryz.isAgg4
  z4 := Tryz.sizeOf4
  v4 := Tryz.zeroValue4
  t5 := Tryz.underlying5
  a5 := Tryz.isAgg5
  z5 := Tryz.sizeOf5
  v5 := Tryz.zeroValue5
  t9 := Tryz.underlying9
  a9 := Tryz.isAgg9
  z9 := Tryz.sizeOf9
  v9 := Tryz.zeroValue9
  t22 := Tryz.underlying30
  a22 := Tryz.isAgg30
  z22 := Tryz.sizeOf30
  v22 := Tryz.zeroValue30
  t25 := Tryz.underlying59
  a25 := Tryz.isAgg59
  z25 := Tryz.sizeOf59
  v25 := Tryz.zeroValue59
  t39 := Tryz.underlying47
  a39 := Tryz.isAgg47
  z39 := Tryz.sizeOf47
  v39 := Tryz.zeroValue47
  t45 := Tryz.underlying91
  a45 := Tryz.isAgg91
  z45 := Tryz.sizeOf91
  v45 := Tryz.zeroValue91
  t46 := Tryz.underlying92
  a46 := Tryz.isAgg92
  z46 := Tryz.sizeOf92
  v46 := Tryz.zeroValue92
  t50 := Tryz.underlying96
  a50 := Tryz.isAgg96
  z50 := Tryz.sizeOf96
  v50 := Tryz.zeroValue96
  t53 := Tryz.underlying99
  a53 := Tryz.isAgg99
  z53 := Tryz.sizeOf99
  v53 := Tryz.zeroValue99
  t55 := Tryz.underlying101
  a55 := Tryz.isAgg101
  z55 := Tryz.sizeOf101
  v55 := Tryz.zeroValue101
  t66 := Tryz.underlying114
  a66 := Tryz.isAgg114
  z66 := Tryz.sizeOf114
  v66 := Tryz.zeroValue114
  t70 := Tryz.underlying118
  a70 := Tryz.isAgg118
  z70 := Tryz.sizeOf118
  v70 := Tryz.zeroValue118
  t76 := Tryz.underlying128
  a76 := Tryz.isAgg128
  z76 := Tryz.sizeOf128
  v76 := Tryz.zeroValue128
  t77 := Tryz.underlying129
  a77 := Tryz.isAgg129
  z77 := Tryz.sizeOf129
  v77 := Tryz.zeroValue129
  }
end Go.Proofs.YtlalpnnnnmcejaaGreatDoor
/- Pairs in memory; their order; slices.SortFunc of them. -/
set_option linter.unusedVariables false
set_option linter.unusedSimpArgs false
namespace Go.Proofs.YtlalpnnnnmcejaaGreatDoor
open Go Go.RowKit
abbrev PairD := List UInt8 × List UInt8
def pairL (p : PairD) : List Value := [.string ⟨p.1.toArray⟩, .string ⟨p.2.toArray⟩]
def cellsU (l : List PairD) : List Value := l.flatMap pairL
theorem pairL_len (p : PairD) : (pairL p).length = 2 := rfl
theorem cellsU_len (l : List PairD) : (cellsU l).length = l.length * 2 := by
  induction l with
  | nil => rfl
  | cons p r ih => simp only [cellsU, List.flatMap_cons, List.length_append, pairL_len, List.length_cons] at *; omega
theorem cellsU_app (a b : List PairD) : cellsU (a ++ b) = cellsU a ++ cellsU b := by simp [cellsU]
theorem cellsU_one (p : PairD) : cellsU [p] = pairL p := by simp [cellsU]
theorem cellsU_at (ps : List PairD) : ∀ (j : Nat) (h : j < ps.length) (i : Nat), i < 2 → (cellsU ps)[j * 2 + i]? = (pairL ps[j])[i]? := by
  induction ps with
  | nil => intro j h; simp at h
  | cons p r ih =>
    intro j h i hi
    have e : cellsU (p :: r) = pairL p ++ cellsU r := by simp [cellsU]
    rw [e]
    cases j with
    | zero => rw [Nat.zero_mul, Nat.zero_add, List.getElem?_append_left (by rw [pairL_len]; exact hi)]; rfl
    | succ j =>
      rw [List.getElem?_append_right (by rw [pairL_len]; omega), pairL_len, show (j + 1) * 2 + i - 2 = j * 2 + i by omega, ih j (by simpa using h) i hi]
      rfl
/-- Pairs, in a slice of the call's own. -/
def OwnU (w0 w : World) (v : Value) (l : List PairD) : Prop := w.ownsRow w0.heap.size 37 2 v l.length (cellsU l)
theorem info_pair : (Tryz.prog.info? 37).map (fun i => (i.zero, i.size, i.bytes)) = some (some (.agg #[.string ⟨#[]⟩, .string ⟨#[]⟩]), 2, 32) := by kernel_rfl
theorem infoP : (Tryz.prog.info? 37).map (·.size) = some 2 := by kernel_rfl
theorem OwnU.nil (w0 w : World) : OwnU w0 w (.slice none 0 0) [] := ⟨rfl, .inl ⟨rfl, rfl⟩⟩
theorem OwnU.g {w0 w w' : World} {v : Value} {l : List PairD} {row : Option Nat} (h : OwnU w0 w v l) (hg : w.grownBy w' row) (hr : ∀ k, v.ownBlock = some k → row ≠ some k) : OwnU w0 w' v l := by
  refine ⟨h.1, ?_⟩
  rcases h.2 with h2 | ⟨g, cap, cur, hv, h1, h2, h3⟩
  · exact .inl h2
  · refine .inr ⟨g, cap, cur, hv, h1, ?_, h3⟩
    rw [hg.block g (Array.getElem?_eq_some_iff.1 h2).1 (fun e => hr g (by rw [hv]; rfl) e.symm)]
    exact h2
theorem OwnU.q {w0 w w' : World} {v : Value} {l : List PairD} (h : OwnU w0 w v l) (hq : Q w w') : OwnU w0 w' v l := h.g (hq.gb none) (fun _ _ e => by cases e)
theorem OwnU.block {w0 w : World} {v : Value} {l : List PairD} (h : OwnU w0 w v l) {k : Nat} (hk : v.ownBlock = some k) : w0.heap.size ≤ k ∧ k < w.heap.size ∧ ∃ cur fz, w.heap[k]? = some (.cells cur 37 fz) := by
  rcases h.2 with ⟨rfl, _⟩ | ⟨g, cap, cur, rfl, h1, h2, _⟩
  · cases hk
  · have := (Array.getElem?_eq_some_iff.1 h2).1
    have e : g = k := by simpa [Value.ownBlock] using hk
    subst e
    exact ⟨h1, this, cur, _, h2⟩
/-- Pair j: its cells. -/
theorem OwnU.at {w0 w : World} {v : Value} {l : List PairD} (h : OwnU w0 w v l) : ∃ A cap, v = .slice A l.length cap ∧ l.length ≤ cap ∧ ∀ j (hj : j < l.length), ∃ g, A = some ⟨g, 0, none⟩ ∧ w.cell? ⟨g, j * 2, none⟩ = some (.string ⟨l[j].1.toArray⟩) ∧ w.cell? ⟨g, j * 2 + 1, none⟩ = some (.string ⟨l[j].2.toArray⟩) := by
  rcases h.2 with ⟨rfl, h0⟩ | ⟨g, cap, cur, rfl, hb, hh, hn, hm, hcs, ht⟩
  · exact ⟨none, 0, by rw [h0], by omega, fun j hj => by omega⟩
  · refine ⟨_, cap, rfl, hn, fun j hj => ⟨g, rfl, ?_, ?_⟩⟩
    · have e := cellsU_at l j hj 0 (by omega)
      have e2 : cur[j * 2]? = some (.string ⟨l[j].1.toArray⟩) := by
        rw [← ht, List.getElem?_take, if_pos (by omega)] at e
        rw [← Array.getElem?_toList]; simpa [pairL] using e
      rw [cell_of_row _ _ _ _ _ _ hh]; exact e2
    · have e := cellsU_at l j hj 1 (by omega)
      have e2 : cur[j * 2 + 1]? = some (.string ⟨l[j].2.toArray⟩) := by
        rw [← ht, List.getElem?_take, if_pos (by omega)] at e
        rw [← Array.getElem?_toList]; simpa [pairL] using e
      rw [cell_of_row _ _ _ _ _ _ hh]; exact e2
/-- append(l, p). -/
theorem wpList_append_u {ops : Array Oper} {rest : List Oper} {o : Oper} {a : Act} {R : Exit → Act → World → Prop} (hgd : o.guard = none) (s x : Operand)
    (ho : o.op = .call { callee := .builtin .append, args := #[s, x], argTypes := #[30, 30] })
    (w0 W : World) (v : Value) (ps : List PairD) (p : PairD) (hs : a.eval s = v) (hown : OwnU w0 W v ps) (hx : a.eval x = .slice (some ⟨W.heap.size, 0, none⟩) 1 1) (hq : w0.heap.size ≤ W.heap.size) (hb : (ps.length + 1) * 32 ≤ 140737488355328)
    (h : ∀ v' w', OwnU w0 w' v' (ps ++ [p]) → W.grownBy w' v.ownBlock → wpList Tryz.prog ops R rest (a.put o.dst v') w') : wpList Tryz.prog ops R (o :: rest) a (W.alloc (.cells (pairL p).toArray 37)) := by
  obtain ⟨i, hi, hz, hsz, hby⟩ := info_parts info_pair
  have hown1 : OwnU w0 (W.alloc (.cells (pairL p).toArray 37)) v ps := hown.q ((Q.refl W).alloc _)
  refine wpList_append_own_at (w := W.alloc (.cells (pairL p).toArray 37)) hgd s x 30 ho w0.heap.size 37 i _ 2 32 Tryz.underlying30 hi hz hsz hby rfl (by decide) v ps.length (cellsU ps) hs hown1 ⟨W.heap.size, 0, none⟩ 1 1 (pairL p) hx rfl ?_ ?_ (by unfold maxLen; omega) hb (by simp; omega) ?_
  · intro j u hj
    have e : (Addr.add ⟨W.heap.size, 0, none⟩ j) = ⟨W.heap.size, j, none⟩ := by unfold Addr.add; split <;> simp_all
    rw [e, cell_of_row _ _ _ _ _ _ (MapKept.heap_alloc W _).1]
    simpa using hj
  · intro u hu
    simp only [pairL, List.mem_cons, List.not_mem_nil, or_false] at hu
    rcases hu with rfl | rfl <;> rfl
  · intro v' w' h2 hg _ hb2
    refine h v' w' ?_ ((World.grownBy_alloc W _ _).trans hg)
    unfold OwnU; rw [cellsU_app, cellsU_one, List.length_append]; exact h2
/-- The slice holds these pairs. -/
def PairsAt (w : World) (A : Option Addr) (n : Nat) (ps : List PairD) : Prop :=
  n = ps.length ∧ (0 < n → ∃ g off, A = some ⟨g, off, none⟩ ∧ g < w.heap.size ∧ ∀ j (h : j < ps.length), ∀ i v, (pairL ps[j])[i]? = some v → w.cell? ⟨g, off + j * 2 + i, none⟩ = some v)
theorem PairsAt.q {w w' : World} {A : Option Addr} {n : Nat} {ps : List PairD} (h : PairsAt w A n ps) (hq : Q w w') : PairsAt w' A n ps :=
  ⟨h.1, fun h0 => let ⟨g, off, e, hg, hc⟩ := h.2 h0; ⟨g, off, e, Nat.lt_of_lt_of_le hg hq.size, fun j hj i v hv => hq.cell (hc j hj i v hv)⟩⟩
def gU (ps : List PairD) (j : Nat) : PairD := ps.getD j ([], [])
theorem PairsAt.at {w : World} {A : Option Addr} {n : Nat} {ps : List PairD} (h : PairsAt w A n ps) {j : Nat} (hj : j < n) : ∃ g off, A = some ⟨g, off, none⟩ ∧
    w.cell? ⟨g, off + j * 2, none⟩ = some (.string ⟨(gU ps j).1.toArray⟩) ∧ w.cell? ⟨g, off + j * 2 + 1, none⟩ = some (.string ⟨(gU ps j).2.toArray⟩) := by
  obtain ⟨g, off, e, hg, hc⟩ := h.2 (by omega)
  have hj' : j < ps.length := by rw [← h.1]; exact hj
  have hp : ps[j] = gU ps j := by simp [gU, List.getD, hj']
  have := hc j hj'
  rw [hp] at this
  exact ⟨g, off, e, this 0 _ rfl, this 1 _ rfl⟩
theorem OwnU.pairs {w0 w : World} {v : Value} {l : List PairD} (h : OwnU w0 w v l) : ∃ A cap, v = .slice A l.length cap ∧ l.length ≤ cap ∧ PairsAt w A l.length l := by
  rcases h.2 with ⟨rfl, h0⟩ | ⟨g, cap, cur, rfl, hb, hh, hn, hm, hcs, ht⟩
  · exact ⟨none, 0, by rw [h0], by omega, rfl, fun h => by omega⟩
  · refine ⟨_, cap, rfl, hn, rfl, fun _ => ⟨g, 0, rfl, lt_of_heap hh, fun j hj i v hv => ?_⟩⟩
    have hi : i < 2 := by have := (List.getElem?_eq_some_iff.1 hv).1; simpa [pairL] using this
    have e := cellsU_at l j hj i hi
    rw [← ht, List.getElem?_take, if_pos (by omega), Array.getElem?_toList] at e
    rw [Nat.zero_add, cell_of_row _ _ _ _ _ _ hh, e]; exact hv
/-! The order. -/
theorem cb_lt : ∀ a b : List UInt8, Lib.compareBytes a b < 0 ↔ a < b := by
  intro a
  induction a with
  | nil => intro b; cases b <;> simp [Lib.compareBytes]
  | cons x a ih =>
    intro b
    cases b with
    | nil => simp [Lib.compareBytes]
    | cons y b =>
      unfold Lib.compareBytes
      rw [List.cons_lt_cons_iff]
      by_cases h1 : x < y
      · simp [h1]
      · rw [if_neg h1]
        by_cases h2 : y < x
        · rw [if_pos h2]
          have : x ≠ y := fun e => by subst e; exact absurd h2 (UInt8.lt_irrefl x)
          simp [h1, this]
        · rw [if_neg h2, ih]
          have : x = y := UInt8.le_antisymm (UInt8.not_lt.1 h2) (UInt8.not_lt.1 h1)
          simp [h1, this]
theorem cb_zero : ∀ a b : List UInt8, Lib.compareBytes a b = 0 ↔ a = b := by
  intro a
  induction a with
  | nil => intro b; cases b <;> simp [Lib.compareBytes]
  | cons x a ih =>
    intro b
    cases b with
    | nil => simp [Lib.compareBytes]
    | cons y b =>
      unfold Lib.compareBytes
      by_cases h1 : x < y
      · have : x ≠ y := fun e => by subst e; exact absurd h1 (UInt8.lt_irrefl x)
        simp [h1, this]
      · rw [if_neg h1]
        by_cases h2 : y < x
        · have : x ≠ y := fun e => by subst e; exact absurd h2 (UInt8.lt_irrefl x)
          simp [h2, this]
        · rw [if_neg h2, ih]
          have : x = y := UInt8.le_antisymm (UInt8.not_lt.1 h2) (UInt8.not_lt.1 h1)
          simp [this]
def pcmp (a b : PairD) : Int := if Lib.compareBytes a.1 b.1 ≠ 0 then Lib.compareBytes a.1 b.1 else Lib.compareBytes a.2 b.2
theorem pcmp_lt (a b : PairD) : pcmp a b < 0 ↔ a.1 < b.1 ∨ (a.1 = b.1 ∧ a.2 < b.2) := by
  unfold pcmp
  by_cases h : a.1 = b.1
  · rw [if_neg (by rw [Decidable.not_not, cb_zero]; exact h), cb_lt]
    have : ¬ b.1 < b.1 := List.lt_irrefl _
    simp [h, this]
  · rw [if_pos (fun e => h ((cb_zero _ _).1 e)), cb_lt]
    simp [h]
theorem swo_pair : Sort.SWO (ltOf pcmp) where
  irrefl x := by
    unfold ltOf; rw [decide_eq_false_iff_not, pcmp_lt]
    rintro (h | ⟨_, h⟩) <;> exact absurd h (List.lt_irrefl _)
  trans x y z h1 h2 := by
    unfold ltOf at *
    rw [decide_eq_true_eq, pcmp_lt] at *
    rcases h1 with h1 | ⟨e1, h1⟩ <;> rcases h2 with h2 | ⟨e2, h2⟩
    · exact .inl (List.lt_trans h1 h2)
    · exact .inl (e2 ▸ h1)
    · exact .inl (e1 ▸ h2)
    · exact .inr ⟨e1.trans e2, List.lt_trans h1 h2⟩
  ntrans x y z h1 h2 := by
    unfold ltOf at *
    rw [decide_eq_false_iff_not, pcmp_lt] at *
    rintro (h | ⟨e, h⟩)
    · by_cases e1 : x.1 = y.1
      · by_cases e2 : y.1 = z.1
        · rw [e1, e2] at h; exact List.lt_irrefl _ h
        · have a2 : ¬ y.1 < z.1 := fun h' => h2 (.inl h')
          exact a2 (e1 ▸ h)
      · have a1 : ¬ x.1 < y.1 := fun h' => h1 (.inl h')
        have b1 : y.1 < x.1 := List.not_le.1 (fun hle => e1 (List.le_antisymm hle (List.not_lt.1 a1)))
        exact h2 (.inl (List.lt_trans b1 h))
    · by_cases e1 : x.1 = y.1
      · have a1 : ¬ x.2 < y.2 := fun h' => h1 (.inr ⟨e1, h'⟩)
        have a2 : ¬ y.2 < z.2 := fun h' => h2 (.inr ⟨e1 ▸ e, h'⟩)
        exact absurd h (List.not_lt.2 (List.le_trans (List.not_lt.1 a2) (List.not_lt.1 a1)))
      · have a1 : ¬ x.1 < y.1 := fun h' => h1 (.inl h')
        have b1 : y.1 < x.1 := List.not_le.1 (fun hle => e1 (List.le_antisymm hle (List.not_lt.1 a1)))
        exact h2 (.inl (e ▸ b1))
theorem pcmp_total (x y : PairD) (h1 : ltOf pcmp x y = false) (h2 : ltOf pcmp y x = false) : x = y := by
  unfold ltOf at *
  rw [decide_eq_false_iff_not, pcmp_lt] at *
  have e1 : x.1 = y.1 := List.le_antisymm (List.not_lt.1 fun h => h2 (.inl h)) (List.not_lt.1 fun h => h1 (.inl h))
  have e2 : x.2 = y.2 := List.le_antisymm (List.not_lt.1 fun h => h2 (.inr ⟨e1.symm, h⟩)) (List.not_lt.1 fun h => h1 (.inr ⟨e1, h⟩))
  exact Prod.ext e1 e2
def sortP (ps : List PairD) : List PairD := ps.mergeSort fun x y => !(ltOf pcmp) y x
end Go.Proofs.YtlalpnnnnmcejaaGreatDoor
/- slices.SortFunc of pairs by Canon's order. -/
set_option linter.unusedVariables false
set_option linter.unusedSimpArgs false
namespace Go.Proofs.YtlalpnnnnmcejaaGreatDoor
open Go Go.RowKit Go.Sort
theorem compare_any (a b : List UInt8) (w : World) : Calls Tryz.prog 37 #[.string ⟨a.toArray⟩, .string ⟨b.toArray⟩] w fun e w' => e = .returned (.int .i64 (Lib.compareBytes a b)) ∧ w' = w :=
  Tryz.strings_Compare ⟨a.toArray⟩ ⟨b.toArray⟩ w
set_option maxHeartbeats 1000000 in
theorem Canon1_any (x y : PairD) (w : World) : Calls Tryz.prog 36 #[.agg (pairL x).toArray, .agg (pairL y).toArray] w fun e w' =>
    e = .returned (.int .i64 (pcmp x y)) ∧ w' = (w.alloc (.cells (pairL x).toArray 37)).alloc (.cells (pairL y).toArray 37) := by
  obtain ⟨x1, x2⟩ := x
  obtain ⟨y1, y2⟩ := y
  have hp : pcmp (x1, x2) (y1, y2) = if Lib.compareBytes x1 y1 ≠ 0 then Lib.compareBytes x1 y1 else Lib.compareBytes x2 y2 := rfl
  show Calls Tryz.prog 36 #[.agg #[.string ⟨x1.toArray⟩, .string ⟨x2.toArray⟩], .agg #[.string ⟨y1.toArray⟩, .string ⟨y2.toArray⟩]] w fun e w' =>
    e = .returned (.int .i64 _) ∧ w' = (w.alloc (.cells #[.string ⟨x1.toArray⟩, .string ⟨x2.toArray⟩] 37)).alloc (.cells #[.string ⟨y1.toArray⟩, .string ⟨y2.toArray⟩] 37)
  by_cases hz : Lib.compareBytes x1 y1 = 0
  · rw [if_neg (by simpa using hz)] at hp
    rw [hp]
    go_enter Tryz.func36, Tryz.ntmps36
    go_wp2_with fail
    refine (compare_any _ _ _).mono ?_
    rintro e w1 ⟨rfl, rfl⟩
    rw [hz]
    go_wp2_with fail
    refine (compare_any _ _ _).mono ?_
    rintro e w1 ⟨rfl, rfl⟩
    go_wp2_with fail
    go_ret
    exact ⟨rfl, rfl⟩
  · rw [if_pos hz] at hp
    rw [hp]
    go_enter Tryz.func36, Tryz.ntmps36
    go_wp2_with fail
    refine (compare_any _ _ _).mono ?_
    rintro e w1 ⟨rfl, rfl⟩
    go_wp2_with fail
    go_ret
    exact ⟨rfl, rfl⟩
theorem enters_canon : ∀ args w, (callFunc 36 args).run Tryz.prog w = .ok (.enter 36 args) w := enters_of Tryz.func36 (by kernel_rfl) rfl
theorem grow_two (w : World) (a b : Obj) : (w.alloc a).alloc b = Sort.grow (w.drewN 0) #[a, b] := by
  rw [Sort.alloc_eq_grow, Sort.alloc_eq_grow, Sort.grow_grow]; rfl
theorem pair_cmp (blk off size : Nat) (w : World) : CmpLays Tryz.prog 36 #[] pairL 2 pcmp blk off size w := by
  intro m os dk _ x y
  refine (Canon1_any x y _).mono ?_
  rintro e w' ⟨rfl, rfl⟩
  exact ⟨rfl, 0, _, grow_two _ _ _⟩
theorem isAgg_pair : ∀ w, (isAgg 37).run Tryz.prog w = .ok true w := Tryz.isAgg37
theorem size_pair : ∀ w, (Go.sizeOf 37).run Tryz.prog w = .ok 2 w := Tryz.sizeOf37
theorem flatU (ps : List PairD) : flatK pairL 2 ps.toArray = (cellsU ps).toArray := by
  apply Array.ext
  · simp [cellsU_len]
  · intro t h1 h2
    have ht : t < ps.length * 2 := by simpa using h1
    have hd : t / 2 < ps.length := by omega
    have hm : t % 2 < 2 := Nat.mod_lt _ (by omega)
    have e1 := get_flatK pairL 2 ps.toArray t (by simpa using ht)
    have e2 := cellsU_at ps (t / 2) hd (t % 2) hm
    rw [show t / 2 * 2 + t % 2 = t by omega] at e2
    rw [getElem!_pos _ t h1] at e1
    rw [e1]
    have e3 : (pairL ps[t / 2])[t % 2]? = some ((pairL ps[t / 2])[t % 2]'(by rw [pairL_len]; exact hm)) := List.getElem?_eq_getElem _
    rw [e3] at e2
    have e4 : ps.toArray[t / 2]! = ps[t / 2] := by rw [getElem!_pos _ _ (by simpa using hd)]; simp
    rw [e4, getElem!_pos _ _ (by rw [pairL_len]; exact hm)]
    have := (List.getElem?_eq_some_iff.1 e2).2
    simpa using this.symm
theorem one_cells (x : PairD) : ∀ v ∈ pairL x, v.oneCell' = true := by
  intro u hu
  simp only [pairL, List.mem_cons, List.not_mem_nil, or_false] at hu
  rcases hu with rfl | rfl <;> rfl
theorem sortP_len (ps : List PairD) : (sortP ps).length = ps.length := by unfold sortP; simp
theorem sort_any (w0 w : World) (v : Value) (ps : List PairD) (h : OwnU w0 w v ps) (hlen : ps.length ≤ 100000000) :
    Calls Tryz.prog 35 #[v, .func (.func 36) #[] #[]] w fun e w' => e = .returned (.tuple #[]) ∧ OwnU w0 w' v (sortP ps) ∧ w.grownBy w' v.ownBlock := by
  rcases h.2 with ⟨rfl, h0⟩ | ⟨g, cap, cur, rfl, hb, hh, hn, hm, hcs, ht⟩
  · have : ps = [] := List.eq_nil_of_length_eq_zero h0
    subst this
    refine (AnyF.slices_SortFunc_none lUr6 none 0 (.func (.func 36) #[] #[]) w).mono ?_
    rintro e w' ⟨rfl, rfl⟩
    exact ⟨rfl, by simpa [sortP] using h, ⟨rfl, rfl, rfl, Nat.le_refl _, fun _ _ _ => rfl⟩⟩
  · have hg := lt_of_heap hh
    have hmx : cap ≤ maxLen := hm
    have hold : HoldsK pairL 2 w g 0 ps.toArray := by
      unfold HoldsK
      rw [flatU]
      intro j hj
      have hj' : j < ps.length * 2 := by simpa [cellsU_len] using hj
      refine ⟨?_, frozen_of_row w g _ _ _ hh⟩
      rw [Nat.zero_add, cell_of_row _ _ _ _ _ _ hh]
      have e : (cur.toList.take (ps.length * 2))[j]? = (cellsU ps)[j]? := by rw [ht]
      rw [List.getElem?_take, if_pos hj', Array.getElem?_toList] at e
      rw [e, getElem!_pos _ j hj, List.getElem?_eq_getElem (by simpa using hj)]
      simp
    have hsz : ps.toArray.size = ps.length := by simp
    have := AnyQ.slices_SortFunc_total lUr6 2 isAgg_pair size_pair pairL (fun x => rfl) one_cells pcmp swo_pair 36 #[] g 0 cap ps.toArray w enters_canon (pair_cmp g 0 _ w) hold hg (by rw [hsz]; omega) pcmp_total
    rw [hsz] at this
    refine this.mono ?_
    rintro e w' ⟨rfl, n, os, rfl⟩
    have hs : (ps.toArray.toList.mergeSort fun x y => !(ltOf pcmp) y x) = sortP ps := rfl
    rw [hs]
    have hl := sortP_len ps
    obtain ⟨qs, hqs⟩ : ∃ qs, sortP ps = qs := ⟨_, rfl⟩
    rw [hqs] at hl ⊢
    have hheap : ∀ k, k < w.heap.size → (sortWorldK pairL 2 w g 0 n qs.toArray os).heap[k]? = if k = g then some (.cells (Sort.putCells id 0 (cellsU qs).toArray cur) 37 (0, 0)) else w.heap[k]? := by
      intro k hk
      unfold sortWorldK putRowK Sort.putRow Sort.mapBlock
      rw [Sort.heap_grow_old _ _ (by simpa [Sort.ahead] using hk)]
      rw [flatU]
      simp only [Sort.ahead, Array.getElem?_modify]
      by_cases e : k = g
      · subst e; rw [if_pos rfl, if_pos rfl, hh]; rfl
      · rw [if_neg (fun h => e h.symm), if_neg e]
    refine ⟨rfl, ⟨by rw [cellsU_len], .inr ⟨g, cap, Sort.putCells id 0 (cellsU qs).toArray cur, by rw [hl], hb, by rw [hheap g hg, if_pos rfl], by omega, hm, by simpa [Sort.putCells] using hcs, ?_⟩⟩, ⟨rfl, rfl, rfl, ?_, fun k hk hkb => ?_⟩⟩
    · apply List.ext_getElem?
      intro j
      rw [List.getElem?_take, Array.getElem?_toList]
      by_cases hj : j < qs.length * 2
      · have hjc : j < cur.size := by omega
        simp only [if_pos hj, Sort.putCells, Array.getElem?_mapIdx, Array.getElem?_eq_getElem hjc, Option.map_some]
        rw [if_pos (by simp [cellsU_len]; omega), List.getElem?_eq_getElem (by rw [cellsU_len]; omega)]
        rw [Nat.sub_zero, getElem!_pos _ j (by simp [cellsU_len]; omega)]
        simp
      · rw [if_neg hj, List.getElem?_eq_none (by rw [cellsU_len]; omega)]
    · unfold sortWorldK putRowK Sort.putRow Sort.mapBlock Sort.ahead Sort.grow; simp
    · rw [hheap k hk, if_neg (fun e => hkb (by rw [e]; rfl))]
end Go.Proofs.YtlalpnnnnmcejaaGreatDoor
