/- Texts of this proof, laid into one: VaD, VaI, VaF, VaM, Sjn. -/
import Derived.Test.YtmmoenbmgcplkaaGreatDoorMn20
/- The document's free, Encode, digit, Decode. -/
set_option linter.unusedVariables false
set_option linter.unusedSimpArgs false
namespace Go.Proofs.YtmmoenbmgcplkaaGreatDoor
open Go Go.RowKit
def hexV (b : UInt8) : Int := if digV b ≤ 15 then (digV b : Int) else -1
theorem hex_facts : ∀ b : UInt8, hexV b = (if 48 ≤ b.toNat ∧ b.toNat ≤ 57 then (b.toNat : Int) - 48 else if 65 ≤ b.toNat ∧ b.toNat ≤ 70 then (b.toNat : Int) - 65 + 10 else if 97 ≤ b.toNat ∧ b.toNat ≤ 102 then (b.toNat : Int) - 97 + 10 else -1) := by
  have h : ∀ n : Fin 256, hexV n.val.toUInt8 = (if 48 ≤ n.val.toUInt8.toNat ∧ n.val.toUInt8.toNat ≤ 57 then (n.val.toUInt8.toNat : Int) - 48 else if 65 ≤ n.val.toUInt8.toNat ∧ n.val.toUInt8.toNat ≤ 70 then (n.val.toUInt8.toNat : Int) - 65 + 10 else if 97 ≤ n.val.toUInt8.toNat ∧ n.val.toUInt8.toNat ≤ 102 then (n.val.toUInt8.toNat : Int) - 97 + 10 else -1) := by decide +kernel
  intro b
  have := h ⟨b.toNat, b.toNat_lt⟩
  simpa using this
def hexAt (l : List UInt8) (i : Nat) : Int := if i < l.length then hexV (gB l i) else -1
theorem hexV_bd (b : UInt8) : -1 ≤ hexV b ∧ hexV b ≤ 15 ∧ (0 ≤ hexV b ↔ digV b ≤ 15) ∧ (digV b ≤ 15 → hexV b = digV b) := by
  unfold hexV; split <;> simp_all <;> omega
def rdecOut (l : List UInt8) : List UInt8 × Int := match (decR l).2 with | none => ((decR l).1, -1) | some k => ([], (k : Int))
set_option maxRecDepth 100000 in
set_option maxHeartbeats 4000000 in
theorem RFree_any (b : UInt8) (w : World) :
    Calls Tryz.prog 86 #[.int .u8 b.toNat] w fun e w' => e = .returned (.bool (freeL true b)) ∧ w' = w := by
  have hf : (freeL true b = true) = (65 ≤ b.toNat ∧ b.toNat ≤ 90 ∨ 97 ≤ b.toNat ∧ b.toNat ≤ 122 ∨ 48 ≤ b.toNat ∧ b.toNat ≤ 57 ∨ b.toNat = 45 ∨ b.toNat = 46 ∨ b.toNat = 95 ∨ b.toNat = 126) := by
    have h : ∀ n : Fin 256, (freeL true n.val.toUInt8 = true) = (65 ≤ n.val.toUInt8.toNat ∧ n.val.toUInt8.toNat ≤ 90 ∨ 97 ≤ n.val.toUInt8.toNat ∧ n.val.toUInt8.toNat ≤ 122 ∨ 48 ≤ n.val.toUInt8.toNat ∧ n.val.toUInt8.toNat ≤ 57 ∨ n.val.toUInt8.toNat = 45 ∨ n.val.toUInt8.toNat = 46 ∨ n.val.toUInt8.toNat = 95 ∨ n.val.toUInt8.toNat = 126) := by
      have h2 : ∀ n : Fin 256, (freeL true n.val.toUInt8 = true) ↔ (65 ≤ n.val.toUInt8.toNat ∧ n.val.toUInt8.toNat ≤ 90 ∨ 97 ≤ n.val.toUInt8.toNat ∧ n.val.toUInt8.toNat ≤ 122 ∨ 48 ≤ n.val.toUInt8.toNat ∧ n.val.toUInt8.toNat ≤ 57 ∨ n.val.toUInt8.toNat = 45 ∨ n.val.toUInt8.toNat = 46 ∨ n.val.toUInt8.toNat = 95 ∨ n.val.toUInt8.toNat = 126) := by decide +kernel
      exact fun n => propext (h2 n)
    have := h ⟨b.toNat, b.toNat_lt⟩
    simp only [UInt8.ofNat_toNat, Nat.toUInt8_eq] at this
    exact this
  have HF := Lib.hid hf
  clear hf
  generalize hn : b.toNat = n at HF
  have hb : n < 256 := by rw [← hn]; exact b.toNat_lt
  go_enter Tryz.func86, Tryz.ntmps86
  go_wp2_with fail
  all_goals
    go_ret
    refine ⟨?_, rfl⟩
    show Ending.returned (.bool _) = .returned (.bool _)
    refine congrArg _ (congrArg _ ?_)
    rw [Bool.eq_iff_iff, HF.out]
    try simp only [Bool.or_eq_true, Bool.and_eq_true, decide_eq_true_eq, beq_iff_eq, true_iff, iff_true, Bool.true_or, Bool.or_true, Bool.false_or, Bool.or_false, Bool.true_and, Bool.false_and, Bool.and_true, Bool.and_false, reduceCtorEq, false_iff, iff_false]
    try omega
theorem RDigit_any (l : List UInt8) (i : Nat) (w : World) (hl : l.length ≤ 100000000) (hi : i ≤ 100000010) :
    Calls Tryz.prog 132 #[.string ⟨l.toArray⟩, .int .i64 (i : Int)] w fun e w' => e = .returned (.int .i64 (hexAt l i)) ∧ w' = w := by
  by_cases h : i < l.length
  · have h1 : decide (l.length ≤ i) = false := by simp; omega
    have HX : Hid (hexAt l i = hexV (gB l i)) := Lib.hid (by unfold hexAt; rw [if_pos h])
    have HF := Lib.hid (hex_facts (gB l i))
    have hb := (gB l i).toNat_lt
    go_enter Tryz.func132, Tryz.ntmps132
    go_wp2_with fail
    all_goals
      go_ret
      refine ⟨?_, rfl⟩
      rw [HX.out, HF.out]
      show Ending.returned (.int .i64 _) = .returned (.int .i64 _)
      refine ret_int ?_
      first | omega | (repeat' split) <;> omega
  · have HX : Hid (hexAt l i = -1) := Lib.hid (by unfold hexAt; rw [if_neg h])
    have h1 : decide (l.length ≤ i) = true := by simp; omega
    go_enter Tryz.func132, Tryz.ntmps132
    go_wp2_with fail
    all_goals
      go_ret
      exact ⟨by rw [HX.out]; rfl, rfl⟩
theorem lit_caps (k : Nat) (h : k < 16) : gB [48, 49, 50, 51, 52, 53, 54, 55, 56, 57, 65, 66, 67, 68, 69, 70] k = gB capsL k := rfl
set_option maxRecDepth 100000 in
set_option maxHeartbeats 4000000 in
theorem REncode_any (l : List UInt8) (sl : Bool) (w : World) (hl : l.length ≤ 100000000) :
    Calls Tryz.prog 38 #[.string ⟨l.toArray⟩, .bool sl] w fun e w' => e = .returned (.string ⟨(encL sl l).toArray⟩) ∧ Q w w' := by
  go_enter Tryz.func38, Tryz.ntmps38
  go_wp2_with fail
  go_loopw [5, 6] (fun v i wr => ∃ k : Nat, k ≤ l.length ∧ i = .int .i64 k ∧ OwnB w wr v (encL sl (l.take k)) ∧ Q w wr) (fun _ i _ => l.length - (intOf i).toNat)
  case atStart => exact ⟨0, by omega, rfl, OwnB.nil _ _, Q.refl _⟩
  case round =>
    obtain ⟨k, hk, rfl, hO, hq⟩ := hrel
    by_cases hlt : k < l.length
    · have hd : decide (k < l.length) = true := by simpa using hlt
      have HT : Hid (encL sl (l.take (k + 1)) = encL sl (l.take k) ++ encB sl (gB l k)) := by rw [take_snocB l k hlt]; exact Lib.hid (encL_snoc _ _ _)
      have HE := Lib.hid (encL_le sl (l.take k))
      have HLT : Hid ((l.take k).length ≤ 100000000) := Lib.hid (by rw [List.length_take]; omega)
      generalize encL sl (l.take k) = F at *
      have hcn := (gB l k).toNat_lt
      have HO := Lib.hid hO
      have HQ := Lib.hid hq
      clear hO hq
      have hfl : freeL sl (gB l k) = (freeL true (gB l k) || ((gB l k) == 47 && !sl)) := by unfold freeL; cases sl <;> simp
      have HFL := Lib.hid hfl
      clear hfl
      have HPlain : Hid (freeL sl (gB l k) = true → encL sl (l.take (k + 1)) = F ++ [gB l k]) := Lib.hid (fun h => by rw [HT.out]; unfold encB; rw [if_pos h])
      have HEsc : Hid (freeL sl (gB l k) = false → encL sl (l.take (k + 1)) = F ++ [37, gB capsL ((gB l k).toNat / 16), gB capsL ((gB l k).toNat % 16)]) := Lib.hid (fun h => by rw [HT.out]; unfold encB escL; rw [h]; rfl)
      obtain ⟨B, hB⟩ : ∃ B, gB l k = B := ⟨_, rfl⟩
      rw [hB] at HT HFL HPlain HEsc hcn
      have HTR : Hid (encL sl (l.take (k + 1)) = F ++ (if freeL true B = true ∨ (B = 47 ∧ sl = false) then [B] else [37, gB capsL (B.toNat / 16), gB capsL (B.toNat % 16)])) := Lib.hid (by
        rw [HT.out]; unfold encB escL; rw [HFL.out]
        rcases freeL true B with _ | _ <;> rcases sl with _ | _ <;> simp)
      clear HPlain HEsc HT HFL
      go_upto_region 5 with (fail)
      go_wp2_with fail
      refine (RFree_any _ _).mono ?_
      rintro e wx ⟨rfl, rfl⟩
      rcases hf : freeL true B with _ | _
      · rw [hf] at HTR
        by_cases h47 : B = 47
        · have h47e : ((B.toNat : Int) == 47) = true := by rw [h47]; rfl
          rcases sl with _ | _
          · have HTK : Hid (encL false (l.take (k + 1)) = F ++ [B]) := Lib.hid (by rw [HTR.out, if_pos (.inr ⟨h47, rfl⟩)])
            clear HTR h47 hf
            go_upto_region 7 with (fail)
            go_wp2_with (at_builtin; refine wpList_append_b rfl (.tmp 29) (.tmp 33) rfl w _ _ _ rfl HO.out HQ.out [B] 1 rfl rfl (by have h1 := HE.out; have h2 := HLT.out; constructor <;> omega) ?_)
            intro v2 w2 ho2 hq2 _ _
            have HO2 := Lib.hid ho2
            have HQ2 := Lib.hid hq2
            clear ho2 hq2 HO HQ
            go_wp2_with fail
            go_roundw
            case rel => exact ⟨k + 1, by omega, by go_num, by rw [HTK.out]; exact HO2.out, HQ2.out⟩
            case measure => simp [intOf]; omega
          · have HTK : Hid (encL true (l.take (k + 1)) = F ++ [37, gB capsL (B.toNat / 16), gB capsL (B.toNat % 16)]) := Lib.hid (by rw [HTR.out, if_neg (by simp)])
            clear HTR h47 hf
            go_upto_region 8 with (fail)
            have i1 : (B.toNat : Int) / 16 < 16 := by omega
            have i2 : (0 : Int) ≤ (B.toNat : Int) / 16 := by omega
            have i3 : (B.toNat : Int) % 16 < 16 := by omega
            have i4 : (0 : Int) ≤ (B.toNat : Int) % 16 := by omega
            have n1 : ((B.toNat : Int) / 16).toNat = B.toNat / 16 := by omega
            have n2 : ((B.toNat : Int) % 16).toNat = B.toNat % 16 := by omega
            refine wp_region_pure [0, 1, 2, 3, 4, 5, 6, 7, 8, 9, 10] [11, 12, 13] (by kernel_rfl) (by kernel_rfl) (by intro c a d v w h; cases d <;> exact h) ?_
            simp only [List.map_cons, List.map_nil, Array.getD_eq_getD_getElem?, List.getElem?_toArray, List.getElem?_cons_succ, List.getElem?_cons_zero, Option.getD_some]
            (repeat (go_big_quiet_step (fail)))
            refine wpQuiet_nil ?_
            clear i1 i2 i3 i4 n1 n2
            have HO1 := Lib.hid (HO.out.q (Q.refl wx).drew)
            have HQ1 := Lib.hid HQ.out.drew
            go_wp2_with (at_builtin; refine wpList_append_b rfl (.tmp 35) (.tmp 46) rfl w wx.drew _ F (by rfl) HO1.out HQ1.out [37, gB capsL (B.toNat / 16), gB capsL (B.toNat % 16)] 3 rfl (by rfl) (by have h1 := HE.out; have h2 := HLT.out; constructor <;> omega) ?_; intro v9 w9 hown9 hq9 _; have HO9 := Lib.hid hown9; have HQ9 := Lib.hid hq9; clear hown9 hq9)
            go_roundw
            case rel => exact ⟨k + 1, by omega, by go_num, by rw [HTK.out]; exact HO9.out, HQ9.out⟩
            case measure => simp [intOf]; omega
        · have h47e : ((B.toNat : Int) == 47) = false := by
            rw [beq_eq_false_iff_ne]; intro h; exact h47 (UInt8.toNat_inj.1 (show B.toNat = 47 by omega))
          have h47f : ¬ (B.toNat : Int) = 47 := by simpa using h47e
          · have HTK : Hid (encL sl (l.take (k + 1)) = F ++ [37, gB capsL (B.toNat / 16), gB capsL (B.toNat % 16)]) := Lib.hid (by rw [HTR.out, if_neg (by simp [h47])])
            clear HTR h47 hf
            go_upto_region 8 with (fail)
            have i1 : (B.toNat : Int) / 16 < 16 := by omega
            have i2 : (0 : Int) ≤ (B.toNat : Int) / 16 := by omega
            have i3 : (B.toNat : Int) % 16 < 16 := by omega
            have i4 : (0 : Int) ≤ (B.toNat : Int) % 16 := by omega
            have n1 : ((B.toNat : Int) / 16).toNat = B.toNat / 16 := by omega
            have n2 : ((B.toNat : Int) % 16).toNat = B.toNat % 16 := by omega
            refine wp_region_pure [0, 1, 2, 3, 4, 5, 6, 7, 8, 9, 10] [11, 12, 13] (by kernel_rfl) (by kernel_rfl) (by intro c a d v w h; cases d <;> exact h) ?_
            simp only [List.map_cons, List.map_nil, Array.getD_eq_getD_getElem?, List.getElem?_toArray, List.getElem?_cons_succ, List.getElem?_cons_zero, Option.getD_some]
            (repeat (go_big_quiet_step (fail)))
            refine wpQuiet_nil ?_
            clear i1 i2 i3 i4 n1 n2
            have HO1 := Lib.hid (HO.out.q (Q.refl wx).drew)
            have HQ1 := Lib.hid HQ.out.drew
            go_wp2_with (at_builtin; refine wpList_append_b rfl (.tmp 35) (.tmp 46) rfl w wx.drew _ F (by rfl) HO1.out HQ1.out [37, gB capsL (B.toNat / 16), gB capsL (B.toNat % 16)] 3 rfl (by rfl) (by have h1 := HE.out; have h2 := HLT.out; constructor <;> omega) ?_; intro v9 w9 hown9 hq9 _; have HO9 := Lib.hid hown9; have HQ9 := Lib.hid hq9; clear hown9 hq9)
            go_roundw
            case rel => exact ⟨k + 1, by omega, by go_num, by rw [HTK.out]; exact HO9.out, HQ9.out⟩
            case measure => simp [intOf]; omega
      · rw [hf] at HTR
        have HTK : Hid (encL sl (l.take (k + 1)) = F ++ [B]) := Lib.hid (by rw [HTR.out, if_pos (.inl rfl)])
        clear HTR hf
        · · go_upto_region 7 with (fail)
            go_wp2_with (at_builtin; refine wpList_append_b rfl (.tmp 29) (.tmp 33) rfl w _ _ _ rfl HO.out HQ.out [B] 1 rfl rfl (by have h1 := HE.out; have h2 := HLT.out; constructor <;> omega) ?_)
            intro v2 w2 ho2 hq2 _ _
            have HO2 := Lib.hid ho2
            have HQ2 := Lib.hid hq2
            clear ho2 hq2 HO HQ
            go_wp2_with fail
            go_roundw
            case rel => exact ⟨k + 1, by omega, by go_num, by rw [HTK.out]; exact HO2.out, HQ2.out⟩
            case measure => simp [intOf]; omega
    · obtain rfl : k = l.length := by omega
      rw [List.take_length] at hO
      have hcv := conv_b hO
      go_wp2_with fail
      go_ret
      exact ⟨rfl, hq⟩
theorem RDec_bad {l : List UInt8} {k : Nat} {o : List UInt8} (h : DecAt l k o) (hk : k < l.length) (hc : gB l k = 37) (hs : hexAt l (k + 1) < 0 ∨ hexAt l (k + 2) < 0) : (decR l).2 = some k := by
  by_cases hsh : l.length < k + 3
  · exact h.short hk hc hsh
  · refine h.bad (by omega) hc ?_
    unfold hexAt at hs
    rw [if_pos (by omega), if_pos (by omega)] at hs
    have a := hexV_bd (gB l (k + 1))
    have b := hexV_bd (gB l (k + 2))
    omega
theorem RDec_good {l : List UInt8} {k : Nat} {o : List UInt8} (h : DecAt l k o) (hc : gB l k = 37) (h1 : ¬ hexAt l (k + 1) < 0) (h2 : ¬ hexAt l (k + 2) < 0) :
    ∃ C : UInt8, k + 3 ≤ l.length ∧ (C.toNat : Int) = 16 * hexAt l (k + 1) + hexAt l (k + 2) ∧ hexAt l (k + 1) ≤ 15 ∧ hexAt l (k + 2) ≤ 15 ∧ DecAt l (k + 3) (o ++ [C]) := by
  have hl2 : k + 2 < l.length := by
    refine Decidable.byContradiction fun hn => h2 ?_
    unfold hexAt; rw [if_neg hn]; omega
  have a := hexV_bd (gB l (k + 1))
  have b := hexV_bd (gB l (k + 2))
  have e1 : hexAt l (k + 1) = hexV (gB l (k + 1)) := by unfold hexAt; rw [if_pos (by omega)]
  have e2 : hexAt l (k + 2) = hexV (gB l (k + 2)) := by unfold hexAt; rw [if_pos (by omega)]
  rw [e1] at h1
  rw [e2] at h2
  rw [e1, e2]
  refine ⟨_, by omega, ?_, by omega, by omega, h.esc (by omega) hc (by omega)⟩
  rw [UInt8.toNat_ofNat', a.2.2.2 (by omega), b.2.2.2 (by omega)]
  omega
set_option maxRecDepth 100000 in
set_option maxHeartbeats 2000000 in
theorem RDecode_any (l : List UInt8) (w : World) (hl : l.length ≤ 100000000) :
    Calls Tryz.prog 83 #[.string ⟨l.toArray⟩] w fun e w' => e = .returned (.tuple #[.string ⟨(rdecOut l).1.toArray⟩, .int .i64 (rdecOut l).2]) ∧ Q w w' := by
  go_enter Tryz.func83, Tryz.ntmps83
  go_wp2_with fail
  go_loopw [4, 5] (fun v i wr => ∃ (k : Nat) (o : List UInt8), k ≤ l.length ∧ i = .int .i64 k ∧ OwnB w wr v o ∧ o.length ≤ k ∧ Hid (DecAt l k o) ∧ Q w wr) (fun _ i _ => l.length - (intOf i).toNat)
  case atStart => exact ⟨0, [], by omega, rfl, OwnB.nil _ _, by simp, Lib.hid (DecAt.zero l), Q.refl _⟩
  case round =>
    obtain ⟨k, o, hk, rfl, hO, ho, HD, hq⟩ := hrel
    by_cases hlt : k < l.length
    · have hd : decide (k < l.length) = true := by simpa using hlt
      have HO := Lib.hid hO
      have HQ := Lib.hid hq
      clear hO hq
      by_cases hc : gB l k = 37
      · have hcn : (gB l k).toNat = 37 := by rw [hc]; rfl
        have HRD : Hid (∀ (i : Nat) (W : World), i ≤ 100000010 → Calls Tryz.prog 132 #[.string ⟨l.toArray⟩, .int .i64 (i : Int)] W fun e w' => e = .returned (.int .i64 (hexAt l i)) ∧ w' = W) := Lib.hid (fun i W hi => RDigit_any l i W hl hi)
        have HC := Lib.hid hc
        have HBad := Lib.hid (RDec_bad HD.out hlt hc)
        have HGood := Lib.hid (RDec_good HD.out hc)
        have h1 := HRD.out (k + 1)
        have h2 := HRD.out (k + 2)
        clear HRD hc
        rw [show ((k + 1 : Nat) : Int) = (k : Int) + 1 by omega] at h1
        rw [show ((k + 2 : Nat) : Int) = (k : Int) + 2 by omega] at h2
        have H1 := Lib.hid h1
        have H2 := Lib.hid h2
        clear h1 h2
        generalize hexAt l (k + 1) = X at HBad HGood H1
        generalize hexAt l (k + 2) = Y at HBad HGood H2
        by_cases hx : X < 0
        · have HR := Lib.hid (HBad.out (.inl hx))
          go_wp2_with fail
          refine (H1.out _ (by omega)).mono ?_
          rintro e wx ⟨rfl, rfl⟩
          go_wp2_with fail
          refine (H2.out _ (by omega)).mono ?_
          rintro e wx ⟨rfl, rfl⟩
          go_wp2_with fail
          go_ret2
          refine ⟨?_, HQ.out⟩
          show Ending.returned (.tuple #[_, _]) = _
          simp [rdecOut, HR.out]
        · by_cases hy : Y < 0
          · have HR := Lib.hid (HBad.out (.inr hy))
            go_wp2_with fail
            refine (H1.out _ (by omega)).mono ?_
            rintro e wx ⟨rfl, rfl⟩
            go_wp2_with fail
            refine (H2.out _ (by omega)).mono ?_
            rintro e wx ⟨rfl, rfl⟩
            go_wp2_with fail
            go_ret2
            refine ⟨?_, HQ.out⟩
            show Ending.returned (.tuple #[_, _]) = _
            simp [rdecOut, HR.out]
          · obtain ⟨C, hk3, hcv, hx15, hy15, hdn⟩ := HGood.out hx hy
            have HDN := Lib.hid hdn
            have e3 : IntKind.u8.wrap (16 * X + Y) = (C.toNat : Int) := by rw [IntKind.wrap_u8, hcv]; omega
            clear hdn hcv HBad HGood HD
            go_wp2_with fail
            refine (H1.out _ (by omega)).mono ?_
            rintro e wx ⟨rfl, rfl⟩
            go_wp2_with fail
            refine (H2.out _ (by omega)).mono ?_
            rintro e wx ⟨rfl, rfl⟩
            clear H1 H2
            go_wp2_with (at_builtin; refine wpList_append_b rfl (.tmp 39) (.tmp 45) rfl w _ _ _ rfl HO.out HQ.out [C] 1 rfl rfl (by constructor <;> omega) ?_)
            intro v2 w2 ho2 hq2 _ _
            have HO2 := Lib.hid ho2
            have HQ2 := Lib.hid hq2
            clear ho2 hq2 HO HQ
            go_wp2_with fail
            go_roundw
            case rel => exact ⟨k + 3, _, by omega, by go_num, HO2.out, by simp; omega, HDN, HQ2.out⟩
            case measure => simp [intOf]; omega
      · have hcn : ¬ ((gB l k).toNat : Int) = 37 := fun h => hc (UInt8.toNat_inj.mp (show (gB l k).toNat = 37 by omega))
        have hce : (((gB l k).toNat : Int) == 37) = false := by simpa using hcn
        go_wp2_with (at_builtin; refine wpList_append_b rfl (.tmp 18) (.tmp 22) rfl w _ _ _ rfl HO.out HQ.out [gB l k] 1 rfl rfl (by constructor <;> omega) ?_)
        intro v2 w2 ho2 hq2 _ _
        have HO2 := Lib.hid ho2
        have HQ2 := Lib.hid hq2
        have HD2 := Lib.hid (HD.out.plain hlt hc)
        clear ho2 hq2 HO HQ HD
        go_wp2_with fail
        go_roundw
        case rel => exact ⟨k + 1, _, by omega, by go_num, HO2.out, by simp; omega, HD2, HQ2.out⟩
        case measure => simp [intOf]; omega
    · have hdd := HD.out.done (by omega)
      have hcv := conv_b hO
      go_wp2_with fail
      go_ret2
      refine ⟨?_, hq⟩
      show Ending.returned (.tuple #[_, _]) = _
      simp [rdecOut, hdd]
end Go.Proofs.YtmmoenbmgcplkaaGreatDoor
/- Two queries compared; the laws UriEscapes, UriNames. -/
set_option linter.unusedVariables false
set_option linter.unusedSimpArgs false
namespace Go.Proofs.YtmmoenbmgcplkaaGreatDoor
open Go Go.RowKit
theorem take_eq_all {ps qs : List PairD} (h : ps.length = qs.length) (ha : ∀ j, j < ps.length → gU ps j = gU qs j) : ps = qs := by
  refine List.ext_getElem h fun i h1 h2 => ?_
  have := ha i h1
  rw [gU_get _ _ h1, gU_get _ _ h2] at this
  exact this
end Go.Proofs.YtmmoenbmgcplkaaGreatDoor
/- The document's Canon. -/
set_option linter.unusedVariables false
set_option linter.unusedSimpArgs false
namespace Go.Proofs.YtmmoenbmgcplkaaGreatDoor
open Go Go.RowKit
theorem bl_lt : ∀ a b : List UInt8, Op.bytesLess a b = true ↔ a < b := by
  intro a
  induction a with
  | nil => intro b; cases b <;> simp [Op.bytesLess]
  | cons x a ih =>
    intro b
    cases b with
    | nil => simp [Op.bytesLess]
    | cons y b =>
      rw [Op.bytesLess, List.cons_lt_cons_iff]
      simp [ih]
theorem ltP_bl (a b : PairD) : ltOf pcmp a b = (Op.bytesLess a.1 b.1 || (a.1 == b.1 && Op.bytesLess a.2 b.2)) := by
  rw [Bool.eq_iff_iff, ltP_iff]
  simp [bl_lt]
theorem join_snoc (xs : List (List UInt8)) (x : List UInt8) (h : xs ≠ []) : Lib.join (xs ++ [x]) [38] = Lib.join xs [38] ++ (38 :: x) := by
  induction xs with
  | nil => exact absurd rfl h
  | cons a r ih =>
    rcases r with _ | ⟨b, r⟩
    · rw [List.singleton_append, join_cons, join_one, join_one]; simp
    · rw [List.cons_append, List.cons_append, join_cons, join_cons, ← List.cons_append, ih (by simp)]; simp
/-- A slice that is being sorted, beside the pair in its box. -/
theorem gU_ins {ys : List PairD} {j : Nat} {x : PairD} (h : j ≤ ys.length) : gU (ys.take j ++ x :: ys.drop j) j = x := by
  have hl : (ys.take j).length = j := by simp; omega
  unfold gU
  rw [List.getD_eq_getElem?_getD, List.getElem?_append_right (by omega), hl]; simp
theorem gU_before {ys : List PairD} {j : Nat} {x : PairD} (h : j + 1 ≤ ys.length) : gU (ys.take (j + 1) ++ x :: ys.drop (j + 1)) j = gU ys j := by
  unfold gU
  rw [List.getD_eq_getElem?_getD, List.getD_eq_getElem?_getD, List.getElem?_append_left (by simp; omega), List.getElem?_take, if_pos (by omega)]
theorem ins_len (ys : List PairD) (j : Nat) (x : PairD) (h : j ≤ ys.length) : (ys.take j ++ x :: ys.drop j).length = ys.length + 1 := by simp; omega
theorem wpList_append_u2 {ops : Array Oper} {rest : List Oper} {o : Oper} {a : Act} {R : Exit → Act → World → Prop} (hgd : o.guard = none) (s x : Operand)
    (ho : o.op = .call { callee := .builtin .append, args := #[s, x], argTypes := #[22, 22] })
    (w0 W : World) (v : Value) (ps : List PairD) (p : PairD) (hs : a.eval s = v) (hown : OwnU w0 W v ps) (hx : a.eval x = .slice (some ⟨W.heap.size, 0, none⟩) 1 1) (hq : w0.heap.size ≤ W.heap.size) (hb : (ps.length + 1) * 32 ≤ 140737488355328)
    (h : ∀ v' w', OwnU w0 w' v' (ps ++ [p]) → W.grownBy w' v.ownBlock → (∀ b, v'.ownBlock = some b → v.ownBlock = some b ∨ W.heap.size ≤ b) → wpList Tryz.prog ops R rest (a.put o.dst v') w') : wpList Tryz.prog ops R (o :: rest) a (W.alloc (.cells (pairL p).toArray 37)) := by
  obtain ⟨i, hi, hz, hsz, hby⟩ := info_parts info_pair
  have hown1 : OwnU w0 (W.alloc (.cells (pairL p).toArray 37)) v ps := hown.q ((Q.refl W).alloc _)
  refine wpList_append_own_at (w := W.alloc (.cells (pairL p).toArray 37)) hgd s x 22 ho w0.heap.size 37 i _ 2 32 Tryz.underlying22 hi hz hsz hby rfl (by decide) v ps.length (cellsU ps) hs hown1 ⟨W.heap.size, 0, none⟩ 1 1 (pairL p) hx rfl ?_ ?_ (by unfold maxLen; omega) hb (by simp; omega) ?_
  · intro j u hj
    have e : (Addr.add ⟨W.heap.size, 0, none⟩ j) = ⟨W.heap.size, j, none⟩ := by unfold Addr.add; split <;> simp_all
    rw [e, cell_of_row _ _ _ _ _ _ (MapKept.heap_alloc W _).1]
    simpa using hj
  · intro u hu
    simp only [pairL, List.mem_cons, List.not_mem_nil, or_false] at hu
    rcases hu with rfl | rfl <;> rfl
  · intro v' w' h2 hg _ hb2
    refine h v' w' ?_ ((World.grownBy_alloc W _ _).trans hg) (fun b hbb => by
      rcases hb2 with h5 | h5
      · exact .inl (h5 ▸ hbb)
      · rw [h5] at hbb; injection hbb with hbb; exact .inr (by simp at hbb; omega))
    unfold OwnU; rw [cellsU_app, cellsU_one, List.length_append]; exact h2
set_option maxRecDepth 100000 in
set_option maxHeartbeats 4000000 in
theorem RCanon_any (A : Option Addr) (n cap : Nat) (ps : List PairD) (w : World) (h : PairsAt w A n ps) (hc : n ≤ cap) (hcap : cap ≤ 9223372036854775807) (hn1 : n ≤ 1100000) (hps : ∀ p ∈ ps, p.1.length ≤ 10000000 ∧ p.2.length ≤ 10000000) :
    Calls Tryz.prog 39 #[.slice A n cap] w fun e w' => e = .returned (.string ⟨(canonL ps).toArray⟩) ∧ Q w w' := by
  obtain rfl := h.1
  have HPS := Lib.hid hps
  have HP := Lib.hid h
  clear hps h
  go_enter Tryz.func39, Tryz.ntmps39
  go_wp2_with fail
  go_loopw [3, 4] (fun v i wr => ∃ (k : Nat) (ys : List PairD), k ≤ ps.length ∧ i = .int .i64 (k : Int) ∧ Hid (ys.length = k) ∧ Hid (OwnU w wr v ys) ∧ Hid (Q w wr) ∧ Hid (UpP ys ∧ ys.Perm ((ps.take k).map encP))) (fun _ i _ => ps.length - (intOf i).toNat)
  case atStart => exact ⟨0, [], by omega, rfl, Lib.hid rfl, Lib.hid (OwnU.nil _ _), Lib.hid (Q.refl _), Lib.hid ⟨List.Pairwise.nil, by simp⟩⟩
  case round =>
    obtain ⟨k, ys, hk, rfl, HYL, HO, HQ, HUP⟩ := hrel
    by_cases hlt : k < ps.length
    · have g1 : decide (k < ps.length) = true := by simpa using hlt
      obtain ⟨g, off, rfl, e0, e1⟩ := (HP.out.q HQ.out).at hlt
      obtain ⟨⟨x, y⟩, hxy⟩ : ∃ p, gU ps k = p := ⟨_, rfl⟩
      rw [hxy] at e0 e1
      simp only at e0 e1
      have HXY : Hid (x.length ≤ 10000000 ∧ y.length ≤ 10000000) := Lib.hid (by
        have hk2 : k < ps.length := hlt
        have e : gU ps k = ps[k] := by simp [gU, List.getD, hk2]
        have := HPS.out _ (List.getElem_mem hk2)
        rw [← e, hxy] at this; exact this)
      have HTK : Hid ((ps.take (k + 1)).map encP = (ps.take k).map encP ++ [encP (x, y)]) := Lib.hid (by rw [take_snocP ps k (by omega), hxy]; simp)
      clear hxy
      have d0 : ∀ m : QW wr.drew, m.val.cell? ⟨g, off + k * 2, none⟩ = some (.string ⟨x.toArray⟩) := fun m => m.cell ((Q.refl _).drew.cell e0)
      have d1 : ∀ m : QW wr.drew, m.val.cell? ⟨g, off + k * 2 + 1, none⟩ = some (.string ⟨y.toArray⟩) := fun m => m.cell ((Q.refl _).drew.cell e1)
      go_upto_region 5 with (fail)
      refine wp_flo [0, 1, 2, 3, 4, 6, 7, 8, 9, 10] [(5, []), (11, [12])] 13 [14] [[0, 1, 2, 3, 4, 5, 6, 7, 8, 9, 10, 11, 12]] (.cells (pairL ([], [])).toArray 37) (by kernel_rfl) (by kernel_rfl) (fun ρ W => by kernel_rfl) ?_
      simp only [wpCh, opsL, List.map_cons, List.map_nil, Array.getD_eq_getD_getElem?, List.getElem?_toArray, List.getElem?_cons_succ, List.getElem?_cons_zero, Option.getD_some]
      (repeat (go_big_quiet_step (fail)))
      refine wpQuiet_nil ?_
      clear d0 d1 e0 e1
      obtain ⟨wd, hwd⟩ : ∃ W, wr.drew = W := ⟨_, rfl⟩
      have HQd : Hid (Q wr wd) := Lib.hid (by rw [← hwd]; exact (Q.refl wr).drew)
      rw [hwd]
      clear hwd
      intro W hW K hK
      have HQ5 := Lib.hid (HQd.out.trans hW)
      clear hW
      go_wp2_with fail
      refine (REncode_any x true _ (by have := HXY.out.1; omega)).mono ?_
      rintro e W6 ⟨rfl, hq6⟩
      have HQ6 := Lib.hid (HQ5.out.trans hq6)
      go_wp2_with fail
      refine hK.out _ _ hq6 ?_
      clear hq6 hK K HQ5
      (repeat (go_big_quiet_step (fail)))
      refine wpQuiet_nil ?_
      intro W hW K hK
      have HQ7 := Lib.hid (HQ6.out.trans hW)
      clear hW HQ6
      go_wp2_with fail
      refine (REncode_any y true _ (by have := HXY.out.2; omega)).mono ?_
      rintro e W8 ⟨rfl, hq8⟩
      have HQ8 := Lib.hid (HQ7.out.trans hq8)
      go_wp2_with fail
      refine hK.out _ _ hq8 ?_
      clear hq8 hK K HQ7
      (repeat (go_big_quiet_step (fail)))
      refine wpQuiet_nil ?_
      intro W' b5 hW hb hN2
      have HQ9 := Lib.hid (HQ8.out.trans hW)
      obtain ⟨X, hX⟩ : ∃ X, encP (x, y) = X := ⟨_, rfl⟩
      have hX1 : encL true x = X.1 := by rw [← hX]; rfl
      have hX2 : encL true y = X.2 := by rw [← hX]; rfl
      rw [hX] at HTK
      rw [hX1, hX2]
      obtain ⟨xn, xv⟩ := X
      clear hX hX1 hX2 hW
      have hNb : wr.heap.size ≤ b5 := Nat.le_trans HQd.out.size hN2
      have hpb : PB (W'.setRow b5 (pairL (xn, xv)).toArray) b5 (xn, xv) := setRow_heap W' _ _ _ _ _ hb
      have hqs : Q wr (W'.setRow b5 (pairL (xn, xv)).toArray) := Q.setRow HQ9.out hNb _
      have HPB := Lib.hid hpb
      have HQS := Lib.hid hqs
      have HO5 := Lib.hid (HO.out.q hqs)
      have HW5 := Lib.hid (HQ.out.trans hqs)
      have HNE : Hid (∀ g, u3.ownBlock = some g → g ≠ b5) := Lib.hid (fun g hg e => by have := (HO.out.block hg).2.1; omega)
      have hwb : w.heap.size ≤ b5 := Nat.le_trans HQ.out.size hNb
      clear hpb hqs hN2 HQ9 HQ8 HQd HO HQ
      go_wp2_with (refine wpList_store_row rfl 37 _ _ rfl b5 (pairL (xn, xv)).toArray (by rfl) (by rfl) 37 _ hb infoP rfl (pairL_one _) ?_)
      refine NoPanic.normal ?_
      obtain ⟨w8, hw8⟩ : ∃ X, W'.setRow b5 (pairL (xn, xv)).toArray = X := ⟨_, rfl⟩
      rw [hw8] at HPB HQS HO5 HW5 ⊢
      clear hw8 hb hNb HQS
      go_upto_region 6 with (fail)
      iterate 4 go_step
      refine wpList_load_row rfl 37 (.tmp 5) rfl b5 rfl _ _ _ _ HPB.out Tryz.underlying37 rfl infoP ?_
      simp only [pairL, Act.put, List.setIfInBounds_toArray, List.set_cons_succ, List.set_cons_zero]
      iterate 3 go_step
      refine wpList_append_u2 rfl (.tmp 28) (.tmp 30) rfl w w8 u3 ys (xn, xv) rfl HO5.out rfl HW5.out.size (by have := HYL.out; omega) ?_
      intro v9 w9 ho9 hg9 hfr9
      have hq9 : Q w w9 := gb_q_own hg9 HW5.out (fun b hb => (HO5.out.block hb).1)
      have hp9 : PB w9 b5 (xn, xv) := by
        unfold PB; rw [hg9.block b5 (lt_of_heap HPB.out) (fun e => HNE.out _ e.symm rfl)]; exact HPB.out
      have hns : v9.ownBlock ≠ some b5 := fun e => by
        rcases hfr9 _ e with h1 | h1
        · exact HNE.out _ h1 rfl
        · have := lt_of_heap HPB.out; omega
      obtain ⟨A2, c2, rfl, hc2, _⟩ := ho9.pairs
      have hl9 : (ys ++ [(xn, xv)]).length = k + 1 := by rw [List.length_append, HYL.out]; rfl
      rw [hl9] at hc2 ho9 hns ⊢
      have hc2m := ho9.cap (by omega)
      have HO9 : Hid (OwnU w w9 (.slice A2 (k + 1) c2) (ys.take k ++ (xn, xv) :: ys.drop k)) := Lib.hid (by
        rw [← HYL.out, List.take_length, List.drop_length]; rw [HYL.out]; exact ho9)
      have HQ9 := Lib.hid hq9
      have HP9 := Lib.hid hp9
      have HNS := Lib.hid hns
      clear ho9 hq9 hp9 hns hg9 hfr9 hl9 HO5 HW5 HPB HNE
      go_wp2_with fail
      go_loopw [6] (fun i wr => ∃ j : Nat, j ≤ k ∧ i = .int .i64 (j : Int) ∧ Hid (OwnU w wr (.slice A2 (k + 1) c2) (ys.take j ++ (xn, xv) :: ys.drop j)) ∧ Hid (Q w wr) ∧ Hid (PB wr b5 (xn, xv)) ∧ Hid (∀ m, j ≤ m → m < ys.length → leP (xn, xv) (gU ys m) = true)) (fun i _ => (intOf i).toNat)
      case atStart => exact ⟨k, by omega, by go_num, HO9, HQ9, HP9, Lib.hid (fun m h1 h2 => by have := HYL.out; omega)⟩
      case round =>
        clear HO9 HQ9 HP9
        obtain ⟨j, hj, rfl, HO, HQ, HB, HL⟩ := hrel
        rcases j with _ | m
        · have HDone : Hid (UpP (ys.take 0 ++ (xn, xv) :: ys.drop 0) ∧ (ys.take 0 ++ (xn, xv) :: ys.drop 0).Perm ((ps.take (k + 1)).map encP)) := Lib.hid
            ⟨ins_up HUP.out.1 (by omega) (fun m h1 h2 => HL.out m h1 h2) (.inl rfl), (ins_perm ys 0 (xn, xv)).trans (by rw [HTK.out]; exact HUP.out.2.append_right _)⟩
          have HLen : Hid ((ys.take 0 ++ (xn, xv) :: ys.drop 0).length = k + 1) := Lib.hid (by rw [ins_len ys 0 _ (by omega), HYL.out])
          clear HL HUP HTK
          rw [show ((0 : Nat) : Int) = 0 from rfl]
          go_upto_region 8 with (fail)
          go_region
          go_wp2_with fail
          go_roundw
          case rel => exact ⟨k + 1, _, by omega, by go_num, HLen, Lib.hid (HO.out.q (Q.refl _).drew), Lib.hid HQ.out.drew, HDone⟩
          case measure => simp [intOf]; omega
        · have hmk : m < k := by omega
          have hyl := HYL.out
          obtain ⟨g2, rfl, e0, e1, hg2, hg2l⟩ := HO.out.el (j := m + 1) (by rw [ins_len ys _ _ (by omega)]; omega)
          obtain ⟨g3, hg3, e2, e3, _, _⟩ := HO.out.el (j := m) (by rw [ins_len ys _ _ (by omega)]; omega)
          cases hg3
          rw [gU_ins (by omega)] at e0 e1
          rw [gU_before (by omega)] at e2 e3
          clear hyl
          have HST : Hid (((ys.take (m + 1) ++ (xn, xv) :: ys.drop (m + 1)).set (m + 1) (gU ys m)).set m (xn, xv) = ys.take m ++ (xn, xv) :: ys.drop m) := Lib.hid (ins_step ys m (xn, xv) (by have := HYL.out; omega))
          obtain ⟨⟨yn, yv⟩, hy⟩ : ∃ p, gU ys m = p := ⟨_, rfl⟩
          rw [hy] at e2 e3 HST
          simp only at e0 e1 e2 e3
          have e0' : wr.cell? ⟨g2, m * 2 + 2, none⟩ = some (.string ⟨xn.toArray⟩) := by rw [show m * 2 + 2 = (m + 1) * 2 by omega]; exact e0
          have hlt := ltP_bl (xn, xv) (yn, yv)
          simp only at hlt
          have HY := Lib.hid hy
          clear hy
          have hyl2 : Hid (ys.length = k) := HYL
          rcases hb1 : Op.bytesLess xn yn with _ | _
          · rcases hb2 : (xn == yn) with _ | _
            · have hno : ltOf pcmp (xn, xv) (yn, yv) = false := by rw [hlt]; simp [hb1, hb2]
              have HDone : Hid (UpP (ys.take (m + 1) ++ (xn, xv) :: ys.drop (m + 1)) ∧ (ys.take (m + 1) ++ (xn, xv) :: ys.drop (m + 1)).Perm ((ps.take (k + 1)).map encP)) := Lib.hid
                ⟨ins_up HUP.out.1 (by have := HYL.out; omega) (fun q h1 h2 => HL.out q h1 h2) (.inr (by show leP (gU ys m) (xn, xv) = true; rw [HY.out]; unfold leP; rw [hno]; rfl)), (ins_perm ys (m + 1) (xn, xv)).trans (by rw [HTK.out]; exact HUP.out.2.append_right _)⟩
              have HLen : Hid ((ys.take (m + 1) ++ (xn, xv) :: ys.drop (m + 1)).length = k + 1) := Lib.hid (by rw [ins_len ys (m + 1) _ (by have := HYL.out; omega), HYL.out])
              clear HL HUP HTK HST HY hno hlt
              go_upto_region 8 with (fail)
              go_region
              clear e0 e0' e1 e2 e3
              go_wp2_with fail
              go_roundw
              case rel => exact ⟨k + 1, _, by omega, by go_num, HLen, Lib.hid (HO.out.q (Q.refl _).drew), Lib.hid HQ.out.drew, HDone⟩
              case measure => simp [intOf]; omega
            · rcases hb3 : Op.bytesLess xv yv with _ | _
              · have hno : ltOf pcmp (xn, xv) (yn, yv) = false := by rw [hlt]; simp [hb1, hb3]
                have HDone : Hid (UpP (ys.take (m + 1) ++ (xn, xv) :: ys.drop (m + 1)) ∧ (ys.take (m + 1) ++ (xn, xv) :: ys.drop (m + 1)).Perm ((ps.take (k + 1)).map encP)) := Lib.hid
                  ⟨ins_up HUP.out.1 (by have := HYL.out; omega) (fun q h1 h2 => HL.out q h1 h2) (.inr (by show leP (gU ys m) (xn, xv) = true; rw [HY.out]; unfold leP; rw [hno]; rfl)), (ins_perm ys (m + 1) (xn, xv)).trans (by rw [HTK.out]; exact HUP.out.2.append_right _)⟩
                have HLen : Hid ((ys.take (m + 1) ++ (xn, xv) :: ys.drop (m + 1)).length = k + 1) := Lib.hid (by rw [ins_len ys (m + 1) _ (by have := HYL.out; omega), HYL.out])
                clear HL HUP HTK HST HY hno hlt
                go_upto_region 8 with (fail)
                go_region
                clear e0 e0' e1 e2 e3
                go_wp2_with fail
                go_roundw
                case rel => exact ⟨k + 1, _, by omega, by go_num, HLen, Lib.hid (HO.out.q (Q.refl _).drew), Lib.hid HQ.out.drew, HDone⟩
                case measure => simp [intOf]; omega
              · have hyes : ltOf pcmp (xn, xv) (yn, yv) = true := by rw [hlt]; simp [hb2, hb3]
                have HL2 : Hid (∀ q, m ≤ q → q < ys.length → leP (xn, xv) (gU ys q) = true) := Lib.hid (fun q h1 h2 => by
                  by_cases e : q = m
                  · subst e; rw [HY.out]; unfold leP; rw [Sort.SWO.asymm swo_pair hyes]; rfl
                  · exact HL.out q (by omega) h2)
                clear HL HY hyes hlt
                go_upto_region 8 with (fail)
                go_region
                obtain ⟨wb, hwb⟩ : ∃ W, wr.drew = W := ⟨_, rfl⟩
                have hqb : Q wr wb := by rw [← hwb]; exact (Q.refl wr).drew
                rw [hwb]
                clear hwb
                have f2 := hqb.cell e2
                have f3 := hqb.cell e3
                have HOb := Lib.hid (HO.out.q hqb)
                have HQb := Lib.hid (HQ.out.trans hqb)
                have HBb : Hid (PB wb b5 (xn, xv)) := Lib.hid (hqb.block HB.out)
                have hgN : g2 ≠ b5 := fun e => HNS.out (by subst e; rfl)
                clear e0 e0' e1 e2 e3 hqb HO HQ HB
                obtain ⟨g4, hg4, hgs, hth, ho9, hg9⟩ := HOb.out.setU (m + 1) (by omega) (yn, yv)
                cases hg4
                have HO9 := Lib.hid ho9
                have hq9 : Q w (wb.setCells g2 ((m + 1) * 2) (pairL (yn, yv))) := Below.grown HQb.out hg9 HQb.out.size (fun b hb => by cases hb; exact hg2)
                have HQ9 := Lib.hid hq9
                have HB9 : Hid (PB (wb.setCells g2 ((m + 1) * 2) (pairL (yn, yv))) b5 (xn, xv)) := Lib.hid (by
                  unfold PB; rw [hg9.block b5 (lt_of_heap HBb.out) (fun e => hgN (by first | exact Option.some.inj e | exact (Option.some.inj e).symm))]; exact HBb.out)
                clear ho9 hg9 hq9 hgs HOb HQb HBb
                go_upto_region 10 with (fail)
                iterate 25 go_step
                refine wpList_store_mid rfl 37 (.tmp 88) (.tmp 87) rfl g2 ((m + 1) * 2) (pairL (yn, yv)).toArray (by rfl) (by rfl) hth infoP (pairL_one _) ?_
                clear hth f2 f3
                go_upto_region 11 with (fail)
                obtain ⟨W6, hW6⟩ : ∃ W, wb.setCells g2 ((m + 1) * 2) (pairL (yn, yv)) = W := ⟨_, rfl⟩
                rw [hW6] at HO9 HQ9 HB9
                have hW6b : wb.setCells g2 ((m + 1) * 2) (pairL (yn, yv)).toArray.toList = W6 := hW6
                first | rw [hW6] | rw [hW6b]
                clear hW6 hW6b
                have c0 := HB9.out.c0
                have c1 := HB9.out.c1
                simp only at c0 c1
                obtain ⟨g5, hg5, hgs5, hth5, ho10, hg10⟩ := HO9.out.setU m (by omega) (xn, xv)
                cases hg5
                rw [HST.out] at ho10
                have HO10 := Lib.hid ho10
                have HQ10 := Lib.hid (Below.grown HQ9.out hg10 HQ9.out.size (fun b hb => by cases hb; exact hg2) : Q w _)
                have HB10 : Hid (PB (W6.setCells g2 (m * 2) (pairL (xn, xv))) b5 (xn, xv)) := Lib.hid (by
                  unfold PB; rw [hg10.block b5 (lt_of_heap HB9.out) (fun e => hgN (by first | exact Option.some.inj e | exact (Option.some.inj e).symm))]; exact HB9.out)
                clear ho10 hg10 hgs5 HO9 HQ9 HB9
                simp only [Act.put, List.setIfInBounds_toArray, List.set_cons_succ, List.set_cons_zero]
                iterate 16 go_step
                refine wpList_store_mid rfl 37 (.tmp 93) (.tmp 92) rfl g2 (m * 2) (pairL (xn, xv)).toArray (by rfl) (by rfl) hth5 infoP (pairL_one _) ?_
                clear hth5 c0 c1
                go_wp2_with fail
                go_roundw
                case rel => exact ⟨m, by omega, by go_num, HO10, HQ10, HB10, HL2⟩
                case measure => simp [intOf]
          · have hyes : ltOf pcmp (xn, xv) (yn, yv) = true := by rw [hlt]; simp [hb1]
            have HL2 : Hid (∀ q, m ≤ q → q < ys.length → leP (xn, xv) (gU ys q) = true) := Lib.hid (fun q h1 h2 => by
              by_cases e : q = m
              · subst e; rw [HY.out]; unfold leP; rw [Sort.SWO.asymm swo_pair hyes]; rfl
              · exact HL.out q (by omega) h2)
            clear HL HY hyes hlt
            go_upto_region 8 with (fail)
            go_region
            obtain ⟨wb, hwb⟩ : ∃ W, wr.drew = W := ⟨_, rfl⟩
            have hqb : Q wr wb := by rw [← hwb]; exact (Q.refl wr).drew
            rw [hwb]
            clear hwb
            have f2 := hqb.cell e2
            have f3 := hqb.cell e3
            have HOb := Lib.hid (HO.out.q hqb)
            have HQb := Lib.hid (HQ.out.trans hqb)
            have HBb : Hid (PB wb b5 (xn, xv)) := Lib.hid (hqb.block HB.out)
            have hgN : g2 ≠ b5 := fun e => HNS.out (by subst e; rfl)
            clear e0 e0' e1 e2 e3 hqb HO HQ HB
            obtain ⟨g4, hg4, hgs, hth, ho9, hg9⟩ := HOb.out.setU (m + 1) (by omega) (yn, yv)
            cases hg4
            have HO9 := Lib.hid ho9
            have hq9 : Q w (wb.setCells g2 ((m + 1) * 2) (pairL (yn, yv))) := Below.grown HQb.out hg9 HQb.out.size (fun b hb => by cases hb; exact hg2)
            have HQ9 := Lib.hid hq9
            have HB9 : Hid (PB (wb.setCells g2 ((m + 1) * 2) (pairL (yn, yv))) b5 (xn, xv)) := Lib.hid (by
              unfold PB; rw [hg9.block b5 (lt_of_heap HBb.out) (fun e => hgN (by first | exact Option.some.inj e | exact (Option.some.inj e).symm))]; exact HBb.out)
            clear ho9 hg9 hq9 hgs HOb HQb HBb
            go_upto_region 10 with (fail)
            iterate 25 go_step
            refine wpList_store_mid rfl 37 (.tmp 88) (.tmp 87) rfl g2 ((m + 1) * 2) (pairL (yn, yv)).toArray (by rfl) (by rfl) hth infoP (pairL_one _) ?_
            clear hth f2 f3
            go_upto_region 11 with (fail)
            obtain ⟨W6, hW6⟩ : ∃ W, wb.setCells g2 ((m + 1) * 2) (pairL (yn, yv)) = W := ⟨_, rfl⟩
            rw [hW6] at HO9 HQ9 HB9
            have hW6b : wb.setCells g2 ((m + 1) * 2) (pairL (yn, yv)).toArray.toList = W6 := hW6
            first | rw [hW6] | rw [hW6b]
            clear hW6 hW6b
            have c0 := HB9.out.c0
            have c1 := HB9.out.c1
            simp only at c0 c1
            obtain ⟨g5, hg5, hgs5, hth5, ho10, hg10⟩ := HO9.out.setU m (by omega) (xn, xv)
            cases hg5
            rw [HST.out] at ho10
            have HO10 := Lib.hid ho10
            have HQ10 := Lib.hid (Below.grown HQ9.out hg10 HQ9.out.size (fun b hb => by cases hb; exact hg2) : Q w _)
            have HB10 : Hid (PB (W6.setCells g2 (m * 2) (pairL (xn, xv))) b5 (xn, xv)) := Lib.hid (by
              unfold PB; rw [hg10.block b5 (lt_of_heap HB9.out) (fun e => hgN (by first | exact Option.some.inj e | exact (Option.some.inj e).symm))]; exact HB9.out)
            clear ho10 hg10 hgs5 HO9 HQ9 HB9
            simp only [Act.put, List.setIfInBounds_toArray, List.set_cons_succ, List.set_cons_zero]
            iterate 16 go_step
            refine wpList_store_mid rfl 37 (.tmp 93) (.tmp 92) rfl g2 (m * 2) (pairL (xn, xv)).toArray (by rfl) (by rfl) hth5 infoP (pairL_one _) ?_
            clear hth5 c0 c1
            go_wp2_with fail
            go_roundw
            case rel => exact ⟨m, by omega, by go_num, HO10, HQ10, HB10, HL2⟩
            case measure => simp [intOf]
    · obtain rfl : k = ps.length := by omega
      rw [List.take_length] at HUP
      have HS : Hid (ys = sortP (ps.map encP)) := Lib.hid (up_sortP HUP.out.1 HUP.out.2)
      have HCL : Hid (canonL ps = Lib.join (ys.map joinE) [38]) := Lib.hid (by unfold canonL partsL; rw [HS.out])
      have HBD : Hid (∀ p ∈ ys, p.1.length ≤ 30000000 ∧ p.2.length ≤ 30000000) := Lib.hid (fun p hp => by
        have hp' : p ∈ ps.map encP := HUP.out.2.mem_iff.1 hp
        obtain ⟨q, hq, rfl⟩ := List.mem_map.1 hp'
        have h1 := encL_le true q.1
        have h2 := encL_le true q.2
        have h3 := HPS.out q hq
        constructor
        · show (encL true q.1).length ≤ _; omega
        · show (encL true q.2).length ≤ _; omega)
      obtain ⟨A2, c2, hv2, hc2, hp2⟩ := HO.out.pairs
      rw [HYL.out] at hv2 hc2 hp2
      subst hv2
      have HP2 := Lib.hid hp2
      clear hp2 HPS HP hlt hk hcap hc HUP HS
      go_wp2_with fail
      go_loopw [7, 8] (fun sv i w2 => ∃ (q : Nat) (S : List UInt8), q ≤ ps.length ∧ i = .int .i64 (q : Int) ∧ sv = .string ⟨S.toArray⟩ ∧ S.length ≤ q * 60000003 ∧ Hid (S = Lib.join ((ys.take q).map joinE) [38]) ∧ Hid (Q wr w2)) (fun _ i _ => ps.length - (intOf i).toNat)
      case atStart => exact ⟨0, [], by omega, rfl, rfl, by simp, Lib.hid (by simp [join_nil]), Lib.hid (Q.refl _)⟩
      case round =>
        obtain ⟨q, S, hq, rfl, rfl, hSL, HS, HQ2⟩ := hrel
        rename World => wz
        by_cases hlt : q < ps.length
        · have g1 : decide (q < ps.length) = true := by simpa using hlt
          obtain ⟨g, off, rfl, e0, e1⟩ := (HP2.out.q HQ2.out).at hlt
          obtain ⟨⟨x, y⟩, hxy⟩ : ∃ p, gU ys q = p := ⟨_, rfl⟩
          rw [hxy] at e0 e1
          simp only at e0 e1
          have hxl : x.length ≤ 30000000 ∧ y.length ≤ 30000000 := by
            have hk2 : q < ys.length := by rw [HYL.out]; omega
            have e : gU ys q = ys[q] := by simp [gU, List.getD, hk2]
            have := HBD.out _ (List.getElem_mem hk2)
            rw [← e, hxy] at this; exact this
          obtain ⟨hx3, hy3⟩ := hxl
          have HTK : Hid ((ys.take (q + 1)).map joinE = (ys.take q).map joinE ++ [joinE (x, y)]) := Lib.hid (by rw [take_snocP ys q (by rw [HYL.out]; omega), hxy]; simp)
          clear hxy
          have hSB : S.length ≤ 70000000000000 := by omega
          by_cases hq0 : q = 0
          · subst hq0
            have HN : Hid (Lib.join ((ys.take (0 + 1)).map joinE) [38] = S ++ (x ++ 61 :: y)) := Lib.hid (by
              have hS := HS.out
              rw [List.take_zero, List.map_nil, join_nil] at hS
              rw [HTK.out, List.take_zero, List.map_nil, List.nil_append, join_one, hS]; rfl)
            clear HTK HS
            rw [show ((0 : Nat) : Int) = 0 from rfl]
            rw [Nat.zero_mul, Nat.add_zero] at e0 e1
            go_upto_region 18 with (fail)
            go_region
            clear e0 e1
            go_wp2_with fail
            go_roundw
            case rel => exact ⟨0 + 1, S ++ (x ++ 61 :: y), by omega, by go_num, by simp, by simp only [List.length_append, List.length_cons]; omega, Lib.hid HN.out.symm, Lib.hid HQ2.out.drew⟩
            case measure => simp [intOf]; try omega
          · have hqi : (0 : Int) < (q : Int) := by omega
            have HN : Hid (Lib.join ((ys.take (q + 1)).map joinE) [38] = S ++ (38 :: (x ++ 61 :: y))) := Lib.hid (by
              rw [HTK.out, join_snoc _ _ (by
                intro e
                have := congrArg List.length e
                simp only [List.length_map, List.length_take, List.length_nil] at this
                have := HYL.out
                omega), ← HS.out]; rfl)
            clear HTK HS hq0
            go_upto_region 18 with (fail)
            go_region
            clear e0 e1
            go_wp2_with fail
            go_roundw
            case rel => exact ⟨q + 1, S ++ (38 :: (x ++ 61 :: y)), by omega, by go_num, by simp, by simp only [List.length_append, List.length_cons]; omega, Lib.hid HN.out.symm, Lib.hid HQ2.out.drew⟩
            case measure => simp [intOf]; try omega
        · obtain rfl : q = ps.length := by omega
          have HR : Hid (canonL ps = S) := Lib.hid (by rw [HCL.out, HS.out, List.take_of_length_le (by rw [HYL.out]; omega)])
          clear HS hSL
          go_wp2_with fail
          go_ret
          rw [HR.out]
          exact ⟨rfl, HQ.out.trans HQ2.out⟩
end Go.Proofs.YtmmoenbmgcplkaaGreatDoor
/- The law UriCanons. -/
set_option linter.unusedVariables false
set_option linter.unusedSimpArgs false
namespace Go.Proofs.YtmmoenbmgcplkaaGreatDoor
open Go Go.RowKit
def markP : PairD := ([109, 97, 114, 107], [])
theorem gU_end (ps : List PairD) (p : PairD) : gU (ps ++ [p]) ps.length = p := by simp [gU]
theorem heavy_each {ps : List PairD} (h : (ps.map fun p => p.1.length + p.2.length + 3).sum ≤ 1048576) : ∀ p ∈ ps, p.1.length ≤ 10000000 ∧ p.2.length ≤ 10000000 := fun p hp => by
  have h1 := heavy_mem hp
  unfold heavy at h1
  omega
end Go.Proofs.YtmmoenbmgcplkaaGreatDoor
/- The laws' copied and still, and the document's Same of two alike. -/
set_option linter.unusedVariables false
set_option linter.unusedSimpArgs false
namespace Go.Proofs.YtmmoenbmgcplkaaGreatDoor
open Go Go.RowKit
set_option maxRecDepth 100000 in
set_option maxHeartbeats 4000000 in
theorem RSame_true (r : ReqD) (A1 A2 : Option Addr) (n c1 c2 : Nat) (w : World) (h1 : PairsAt w A1 n r.fs) (h2 : PairsAt w A2 n r.fs) (hn : n ≤ 10000000) :
    Calls Tryz.prog 21 #[.agg (reqC r A1 n c1).toArray, .agg (reqC r A2 n c2).toArray] w fun e w' => e = .returned (.bool true) ∧ Q w w' := by
  have H1 := Lib.hid h1
  have H2 := Lib.hid h2
  have HNL := Lib.hid h1.1
  obtain ⟨N, w1, hN, e1, hb1, hq1⟩ : ∃ N w1, w.heap.size = N ∧ w.alloc (.cells (reqV r (.slice A1 n c1)).toArray 24) = w1 ∧ RB w1 N r (.slice A1 n c1) ∧ Q w w1 := ⟨_, _, rfl, rfl, RB.new w r _, (Q.refl w).alloc _⟩
  obtain ⟨w2, hN1, e2, hb2, hb3, hq2⟩ : ∃ w2, w1.heap.size = N + 1 ∧ w1.alloc (.cells (reqV r (.slice A2 n c2)).toArray 24) = w2 ∧ RB w2 N r (.slice A1 n c1) ∧ RB w2 (N + 1) r (.slice A2 n c2) ∧ Q w w2 := by
    have hs1 : w1.heap.size = N + 1 := by rw [← e1, ← hN]; show (w.heap.push _).size = _; simp
    refine ⟨_, hs1, rfl, hb1.q ((Q.refl w1).alloc _), ?_, hq1.alloc _⟩
    rw [← hs1]; exact RB.new w1 r _
  have HB := Lib.hid hb2
  have HC := Lib.hid hb3
  have HQ := Lib.hid hq2
  clear h1 h2 hb1 hq1 hb2 hb3 hq2
  obtain ⟨m, tg, minor, fs, body, close⟩ := r
  simp only [reqV] at e1 e2
  simp only at HNL
  unfold reqC
  obtain ⟨b0, b1, b2, b3, b4, b5⟩ := HB.out.c
  obtain ⟨c0, d1, d2, d3, d4, d5⟩ := HC.out.c
  go_enter Tryz.func21, Tryz.ntmps21
  go_wp2_with fail
  clear b0 b1 b2 b3 b4 b5 c0 d1 d2 d3 d4 d5 e1 e2 hN hN1
  go_loopw [5] (fun i wr => ∃ k : Nat, k ≤ n ∧ i = .int .i64 (k : Int) ∧ Hid (Q w2 wr)) (fun i _ => n - (intOf i).toNat)
  case atStart => exact ⟨0, by omega, rfl, Lib.hid (Q.refl _)⟩
  case round =>
    obtain ⟨k, hk, rfl, HQr⟩ := hrel
    rename World => wa
    have HW := Lib.hid (HQ.out.trans HQr.out)
    have b3 := (HB.out.q HQr.out).c.2.2.2.1
    have d3 := (HC.out.q HQr.out).c.2.2.2.1
    by_cases hlt : k < n
    · have g1 : decide (k < n) = true := by simpa using hlt
      obtain ⟨ga, oa, hA, e0, e1⟩ := (H1.out.q HW.out).at hlt
      obtain ⟨gb, ob, hB, f0, f1⟩ := (H2.out.q HW.out).at hlt
      subst hA
      subst hB
      obtain ⟨⟨x, y⟩, hxy⟩ : ∃ p, gU fs k = p := ⟨_, rfl⟩
      rw [hxy] at e0 e1 f0 f1
      simp only at e0 e1 f0 f1
      clear hxy
      go_upto_region 6 with (fail)
      have k3 : ∀ mm : QW wa, mm.val.cell? ⟨N, 3, none⟩ = some (.slice (some ⟨ga, oa, none⟩) n c1) := fun mm => mm.cell b3
      have l3 : ∀ mm : QW wa, mm.val.cell? ⟨N + 1, 3, none⟩ = some (.slice (some ⟨gb, ob, none⟩) n c2) := fun mm => mm.cell d3
      have k4 : ∀ mm : QW wa, mm.val.cell? ⟨ga, oa + k * 2, none⟩ = some (.string ⟨x.toArray⟩) := fun mm => mm.cell e0
      have k5 : ∀ mm : QW wa, mm.val.cell? ⟨ga, oa + k * 2 + 1, none⟩ = some (.string ⟨y.toArray⟩) := fun mm => mm.cell e1
      have l4 : ∀ mm : QW wa, mm.val.cell? ⟨gb, ob + k * 2, none⟩ = some (.string ⟨x.toArray⟩) := fun mm => mm.cell f0
      have l5 : ∀ mm : QW wa, mm.val.cell? ⟨gb, ob + k * 2 + 1, none⟩ = some (.string ⟨y.toArray⟩) := fun mm => mm.cell f1
      refine wp_region_q (by kernel_rfl) (by kernel_rfl) ?_
      (repeat (go_big_quiet_step (fail)))
      refine wpQuiet_nil ?_
      rintro wx ⟨mx, hmx⟩
      have hqx : Q wa wx := by rw [hmx]; exact mx.le
      have HQx := Lib.hid (HQr.out.trans hqx)
      clear mx hmx hqx k3 l3 k4 k5 l4 l5 e0 e1 f0 f1 b3 d3
      go_wp2_with fail
      go_roundw
      case rel => exact ⟨k + 1, by omega, by go_num, HQx⟩
      case measure => simp [intOf]; omega
    · have g1 : decide (k < n) = false := by simpa using hlt
      clear hlt
      go_wp2_with fail
      go_ret
      exact ⟨rfl, HW.out⟩
/-- A request copied, with a mark behind its fields. -/
def CpPost (r : ReqD) (n : Nat) (w : World) (e : Ending) (w' : World) : Prop :=
  (∃ G, e = .returned (.agg (reqC r (some ⟨G, 0, none⟩) n (n + 1)).toArray) ∧ OwnU w w' (.slice (some ⟨G, 0, none⟩) (n + 1) (n + 1)) (r.fs ++ [markP])) ∧ Q w w'
set_option maxRecDepth 100000 in
set_option maxHeartbeats 4000000 in
theorem copied_any (r : ReqD) (A : Option Addr) (n c : Nat) (w : World) (h : PairsAt w A n r.fs) (hn : n ≤ 1100000) :
    Calls Tryz.prog 12 #[.agg (reqC r A n c).toArray] w (CpPost r n w) := by
  have HP := Lib.hid h
  have HNL := Lib.hid h.1
  obtain ⟨N, w1, hN, e1, hb1, hq1⟩ : ∃ N w1, w.heap.size = N ∧ w.alloc (.cells (reqV r (.slice A n c)).toArray 24) = w1 ∧ RB w1 N r (.slice A n c) ∧ Q w w1 := ⟨_, _, rfl, rfl, RB.new w r _, (Q.refl w).alloc _⟩
  obtain ⟨w2, hN1, e2, hb2, hb3, hq2⟩ : ∃ w2, w1.heap.size = N + 1 ∧ w1.alloc (.cells (reqV zeroR (.slice none 0 0)).toArray 24) = w2 ∧ RB w2 N r (.slice A n c) ∧ RB w2 (N + 1) zeroR (.slice none 0 0) ∧ Q w w2 := by
    have hs1 : w1.heap.size = N + 1 := by rw [← e1, ← hN]; show (w.heap.push _).size = _; simp
    refine ⟨_, hs1, rfl, hb1.q ((Q.refl w1).alloc _), ?_, hq1.alloc _⟩
    rw [← hs1]; exact RB.new w1 zeroR _
  have HB := Lib.hid hb2
  have HZ := Lib.hid hb3
  have HQ := Lib.hid hq2
  have HNw : Hid (w.heap.size ≤ N) := Lib.hid (by omega)
  obtain ⟨w3, hmk, ho3, hq3⟩ := make_pairs w2 (n + 1) (n + 1) (Nat.le_refl _) (by omega)
  have hmk : (Instr.makeSlice 22 (.int .i64 ((n : Int) + 1)) (.int .i64 ((n : Int) + 1))).run Tryz.prog w2 = .ok (.slice (some ⟨w2.heap.size, 0, none⟩) (n + 1) (n + 1)) w3 := hmk
  obtain ⟨G, hG⟩ : ∃ G, G = w2.heap.size := ⟨_, rfl⟩
  rw [← hG] at hmk ho3
  have hNG : N + 1 < G := by rw [hG]; exact lt_of_heap HZ.out
  have HG := Lib.hid hG
  have HNG := Lib.hid hNG
  clear hG hNG h hb1 hq1 hb2 hb3 hq2
  obtain ⟨m, tg, minor, fs, body, close⟩ := r
  simp only [reqV, zeroR] at e1 e2
  simp only at HNL
  unfold CpPost reqC
  have b3 := HB.out.c.2.2.2.1
  go_enter Tryz.func12, Tryz.ntmps12
  go_upto_region 2 with (fail)
  clear b3 e1 e2 hN hN1
  have b3 := (HB.out.q hq3).c.2.2.2.1
  iterate 10 go_step
  refine wpList_copy_u rfl (.tmp 9) (.tmp 11) rfl w2 w3 G (n + 1) (n + 1) (List.replicate (n + 1) default) fs _ n c (by rfl) ho3 List.length_replicate (by rfl) ((HP.out.q HQ.out).q hq3) hq3 ?_
  intro w4 ho4 hq4 hg4
  have e1 : fs.take (n + 1) ++ (List.replicate (n + 1) (default : PairD)).drop n = fs ++ [default] := by
    rw [List.take_of_length_le (by have := HNL.out; omega), List.drop_replicate, show n + 1 - n = 1 by omega]; rfl
  rw [e1] at ho4
  obtain ⟨g, hg, hgs, hth, ho5, hg5⟩ := ho4.setU n (by omega) markP
  cases hg
  have e2 : (fs ++ [(default : PairD)]).set n markP = fs ++ [markP] := by rw [HNL.out, List.set_append_right _ _ (Nat.le_refl _)]; simp
  rw [e2] at ho5
  have hgn : ∀ k, (Value.slice (some ⟨G, 0, none⟩) (n + 1) (n + 1)).ownBlock = some k → w2.heap.size ≤ k := fun k hk => by cases hk; rw [HG.out]; exact Nat.le_refl _
  have hq5 : Q w2 (w4.setCells G (n * 2) (pairL markP)) := Below.grown hq4 hg5 hq4.size (fun k hk => by cases hk; rw [HG.out]; exact Nat.le_refl _)
  have b3 := (HB.out.q hq4).c.2.2.2.1
  have HO5 := Lib.hid ho5
  have HQ5 := Lib.hid hq5
  clear hmk ho3 ho4 e1 e2 ho5 hg5 hq3 hq4 hgs hg4 hgn hq5
  go_upto_region 4 with (refine wpList_store_mid rfl 37 _ _ rfl G (n * 2) (pairL markP).toArray (by rfl) (by rfl) hth infoP (pairL_one _) ?_)
  obtain ⟨w5, hw5⟩ : ∃ W, w4.setCells G (n * 2) (pairL markP) = W := ⟨_, rfl⟩
  rw [hw5] at HO5 HQ5
  have hw5b : w4.setCells G (n * 2) (pairL markP).toArray.toList = w5 := hw5
  first | rw [hw5] | rw [hw5b]
  clear hw5 hw5b hth b3
  have b3 := (HB.out.q HQ5.out).c.2.2.2.1
  have f3 := (HB.out.q HQ5.out).f 3
  have HB6 := Lib.hid ((HB.out.q HQ5.out).set (.slice (some ⟨G, 0, none⟩) n (n + 1)))
  have HZ6 := Lib.hid ((HZ.out.q HQ5.out).otherC (show N + 1 ≠ N by omega) (i := 3) (.slice (some ⟨G, 0, none⟩) n (n + 1)))
  have HO6 := Lib.hid (HO5.out.setC N 3 (.slice (some ⟨G, 0, none⟩) n (n + 1)) (by have := lt_of_heap HB.out; exact this))
  have HQ6 : Hid (Q w (w5.setCell ⟨N, 3, none⟩ (.slice (some ⟨G, 0, none⟩) n (n + 1)))) := Lib.hid (Q.setNew (HQ.out.trans HQ5.out) (by have := HNw.out; show w.heap.size ≤ N; omega) _)
  obtain ⟨w6, hw6⟩ : ∃ W, w5.setCell ⟨N, 3, none⟩ (.slice (some ⟨G, 0, none⟩) n (n + 1)) = W := ⟨_, rfl⟩
  rw [hw6] at HB6 HZ6 HO6 HQ6
  clear HQ5 HO5
  go_upto_region 5 with (fail)
  try rw [hw6]
  clear hw6 b3 f3
  obtain ⟨b0, b1, b2, b3, b4, b5⟩ := HB6.out.c
  simp only at b0 b1 b2 b4 b5
  go_wp2_with (refine wpList_store_row rfl 24 _ _ rfl (N + 1) (reqV ⟨m, tg, minor, fs, body, close⟩ (.slice (some ⟨G, 0, none⟩) n (n + 1))).toArray (by rfl) (by rfl) 24 _ HZ6.out (infoReqS _ _) rfl (reqV_one _ _ _ _) ?_)
  have hz2 := HZ6.out.row ⟨m, tg, minor, fs, body, close⟩ (.slice (some ⟨G, 0, none⟩) n (n + 1))
  have hq2 : Q w (w6.setRow (N + 1) (reqV ⟨m, tg, minor, fs, body, close⟩ (.slice (some ⟨G, 0, none⟩) n (n + 1))).toArray) := Q.setRow HQ6.out (by have := HNw.out; omega) _
  have ho2 : OwnU w (w6.setRow (N + 1) (reqV ⟨m, tg, minor, fs, body, close⟩ (.slice (some ⟨G, 0, none⟩) n (n + 1))).toArray) (.slice (some ⟨G, 0, none⟩) (n + 1) (n + 1)) (fs ++ [markP]) := (HO6.out.setR (N + 1) _ (lt_of_heap HZ.out)).low HQ.out.size
  generalize w6.setRow (N + 1) (reqV ⟨m, tg, minor, fs, body, close⟩ (.slice (some ⟨G, 0, none⟩) n (n + 1))).toArray = W9 at hz2 hq2 ho2 ⊢
  refine bodyPost_ret (v := .agg (reqV ⟨m, tg, minor, fs, body, close⟩ (.slice (some ⟨G, 0, none⟩) n (n + 1))).toArray) ?_ rfl ⟨⟨G, rfl, ho2⟩, hq2⟩
  exact results_cell_row rfl _ _ (N + 1) 24 _ (0, 0) _ rfl hz2 Tryz.underlying24 rfl (infoReqS _ _)
end Go.Proofs.YtmmoenbmgcplkaaGreatDoor
