/- Texts of this proof, laid into one: JsK, JsL, JsM, JsN. -/
import Derived.Test.YtcbepjepcabllaaGreatDoorMk13
/- The play's open, where a journal is found. -/
set_option linter.unusedVariables false
set_option linter.unusedSimpArgs false
namespace Go.Proofs.YtcbepjepcabllaaGreatDoor
open Go Go.RowKit
/-- A cell of an own row is written. -/
theorem OwnS.poke {w0 w : World} {v x : Value} {us : List Value} (h : OwnS 9 w0 w v us) {i : Nat} (hi : i < us.length) :
    ∃ g cap, v = .slice (some ⟨g, 0, none⟩) us.length cap ∧ w0.heap.size ≤ g ∧ elemT w g = some 9 ∧ w.cell? ⟨g, i, none⟩ = some us[i] ∧ w.frozen? ⟨g, i, none⟩ = false ∧ OwnS 9 w0 (w.setCell ⟨g, i, none⟩ x) v (us.set i x) := by
  obtain ⟨h1, h2⟩ := h
  rcases h2 with ⟨_, h0⟩ | ⟨g, cap, cur, hv, hb, hh, hn, hm, hcs, ht⟩
  · omega
  have hcell : cur[i]? = some us[i] := by
    have : us[i]? = cur.toList[i]? := by rw [← ht, List.getElem?_take, if_pos (by omega)]
    rw [List.getElem?_eq_getElem hi] at this
    rw [this]; simp
  refine ⟨g, cap, hv, hb, elemT_of hh, by rw [cell_of_row _ _ _ _ _ _ hh]; exact hcell, frozen_of_row w g i _ _ hh, ?_, .inr ⟨g, cap, cur.setIfInBounds i x, ?_, hb, ?_, ?_, hm, ?_, ?_⟩⟩
  · rw [List.length_set, Nat.mul_one]
  · rw [List.length_set]; exact hv
  · rw [heap_setCell_any w g i _ _ _ _ hh]
  · rw [List.length_set]; exact hn
  · rw [Array.size_setIfInBounds]; exact hcs
  · rw [List.length_set, Array.toList_setIfInBounds, List.take_set, ht]
/-- What stands while open writes. -/
structure OpF (w0 W : World) (bw bp bd bj br G gh : Nat) (J : JrnS) (d : DskS) (pj pr : Value) (f size : Int) (closed rot : Bool) (wa wo : Value) (H E : Int) (vr : Value) (FE : Int) (v : Value) (L : Int) (B : Bool) (rs : List (List UInt8)) : Prop where
  j : JD w0 W bj bd bp gh J d
  w : WAt W bw bp bd pj pr f size closed false rot wa wo
  r : RJAt W br H E vr
  f : FndAt W G FE v L B
  s : StrS W v rs
  q : Q w0 W
  hbw : w0.heap.size ≤ bw
  hbr : w0.heap.size ≤ br
section
variable {w0 W : World} {bw bp bd bj br G gh : Nat} {J : JrnS} {d : DskS} {pj pr : Value} {f size : Int} {closed rot : Bool} {wa wo : Value} {H E : Int} {vr : Value} {FE : Int} {v : Value} {L : Int} {B : Bool} {rs : List (List UInt8)}
theorem OpF.drew (h : OpF w0 W bw bp bd bj br G gh J d pj pr f size closed rot wa wo H E vr FE v L B rs) : OpF w0 W.drew bw bp bd bj br G gh J d pj pr f size closed rot wa wo H E vr FE v L B rs :=
  have hq : Q W W.drew := (Q.refl W).drew
  ⟨h.j.q hq, h.w.q hq, h.r.q hq, h.f.q hq, h.s.q hq, h.q.drew, h.hbw, h.hbr⟩
theorem OpF.setW (h : OpF w0 W bw bp bd bj br G gh J d pj pr f size closed rot wa wo H E vr FE v L B rs) (i : Nat) (x : Value) {pj' pr' : Value} {closed' : Bool} {wa' wo' : Value} (hw : WAt (W.setCell ⟨bw, i, none⟩ x) bw bp bd pj' pr' f size closed' false rot wa' wo') : OpF w0 (W.setCell ⟨bw, i, none⟩ x) bw bp bd bj br G gh J d pj' pr' f size closed' rot wa' wo' H E vr FE v L B rs := by
  have hg := gb_setCell W bw i x
  have e := elemT_of h.w
  have e1 : bj ≠ bw := fun c => by subst c; rw [elemT_of h.j.j] at e; revert e; decide
  have e2 : br ≠ bw := fun c => by subst c; rw [elemT_of h.r] at e; revert e; decide
  have e3 : G ≠ bw := fun c => by subst c; rw [elemT_of h.f] at e; revert e; decide
  exact ⟨h.j.gb hg (by rw [e]; decide) e1, hw, h.r.gb hg e2, h.f.gb hg e3, h.s.gb hg (by rw [e]; decide), gb_q hg h.q h.hbw, h.hbw, h.hbr⟩
theorem OpF.setR (h : OpF w0 W bw bp bd bj br G gh J d pj pr f size closed rot wa wo H E vr FE v L B rs) (i : Nat) (x : Value) {E' : Int} {vr' : Value} (hr : RJAt (W.setCell ⟨br, i, none⟩ x) br H E' vr') : OpF w0 (W.setCell ⟨br, i, none⟩ x) bw bp bd bj br G gh J d pj pr f size closed rot wa wo H E' vr' FE v L B rs := by
  have hg := gb_setCell W br i x
  have e := elemT_of h.r
  have e1 : bj ≠ br := fun c => by subst c; rw [elemT_of h.j.j] at e; revert e; decide
  have e2 : bw ≠ br := fun c => by subst c; rw [elemT_of h.w] at e; revert e; decide
  have e3 : G ≠ br := fun c => by subst c; rw [elemT_of h.f] at e; revert e; decide
  exact ⟨h.j.gb hg (by rw [e]; decide) e1, h.w.gb hg e2, hr, h.f.gb hg e3, h.s.gb hg (by rw [e]; decide), gb_q hg h.q h.hbr, h.hbw, h.hbr⟩
end
set_option maxRecDepth 100000 in
set_option maxHeartbeats 8000000 in
theorem wopen_found {w0 w : World} {bw bp bd gh br : Nat} {pj wa wo vr : Value} {H E : Int} {f half : Nat} {closed rot : Bool} {d : DskS} {was would : List (List UInt8)} (h : WAt w bw bp bd pj (.pointer (some ⟨br, 0, none⟩)) (f : Int) ((2 * half : Nat) : Int) closed false rot wa wo) (hd : DAt w0 w bd bp gh d) (hdead : d.dead = false) (hgone : d.gone = false) (hw : d.wait = []) (hn : d.n = 64) (hh : 2 ≤ half) (hpl : f + 2 * half ≤ 64) (he : (openF f half d).epoch ≠ 0) (hr : RJAt w br H E vr) (hwa : StrS w wa was) (hwo : StrS w wo would) (hlw : was.length ≤ 1000 ∧ would.length ≤ 1000) (hin : rot = false → (openF f half d).recs = was ∨ (openF f half d).recs = would) (hbw : w0.heap.size ≤ bw) (hbr : w0.heap.size ≤ br) (hq0 : Q w0 w) :
    Calls Tryz.prog 40 #[.pointer (some ⟨bw, 0, none⟩)] w fun e w' => e = .returned (.bool true) ∧ Q w0 w' ∧ ∃ bj v, JD w0 w' bj bd bp gh (foundJ f half (openF f half d)) d ∧ WAt w' bw bp bd (.pointer (some ⟨bj, 0, none⟩)) (.pointer (some ⟨br, 0, none⟩)) (f : Int) ((2 * half : Nat) : Int) false false rot v v ∧ StrS w' v (openF f half d).recs ∧ RJAt w' br H ((openF f half d).epoch : Int) v := by
  have HB := Lib.hid (bytes_any h hd hdead hn hpl)
  have HWA := Lib.hid h
  have HDA := Lib.hid hd
  have HQ0 := Lib.hid hq0
  have HBW := Lib.hid hbw
  have HBR := Lib.hid hbr
  have HRJ := Lib.hid hr
  have HVA := Lib.hid hwa
  have HVO := Lib.hid hwo
  have HLW := Lib.hid hlw
  have hlen := hd.ok.len
  obtain ⟨X, hX⟩ : ∃ X, sub d.has (64 * f) (64 * (f + 2 * half)) = X := ⟨_, rfl⟩
  have hXl : X.length = 64 * (2 * half) := by rw [← hX, length_sub]; omega
  have hop : openF f half d = foundOf (sub X 0 (64 * half)) (sub X (64 * half) X.length) half := open_bytes hw f half (by omega) hd.ok X hX.symm
  have HRR := Lib.hid (fun w => RRead_any X half w hXl ⟨hh, by omega⟩)
  rw [← hop] at HRR
  rw [hX] at HB
  have HOP := Lib.hid (fun w' (hq : Q w w') => Open_ok f half (hd.q hq) hh (by omega) (Nat.le_trans hq0.size hq.size) (by rw [hw]; exact Nat.zero_le _) ⟨hgone, hdead⟩ he)
  have HOK := Lib.hid (found_bd (f := f) (half := half) hd.ok (by omega) hh he)
  obtain ⟨F, hF⟩ : ∃ F, openF f half d = F := ⟨_, rfl⟩
  rw [hF] at HRR HOP HOK he hin ⊢
  have HIN := Lib.hid hin
  have HE := Lib.hid he
  obtain ⟨S, hS⟩ : ∃ S, 2 * half = S := ⟨_, rfl⟩
  rw [hS] at HWA HOP ⊢
  have hh32 : half ≤ 32 := by omega
  have HH := Lib.hid hh32
  clear h hd hdead hgone hw hn hh hpl he hbw hbr hr hwa hwo hlw hin hq0 hlen hX hXl hop hF hS hh32
  go_enter Tryz.func40, Tryz.ntmps40
  go_wp2_with fail
  refine HB.out.mono ?_
  rintro e w1 ⟨rfl, hq1⟩
  have HQ1 := Lib.hid hq1
  clear hq1 HB
  go_wp2_with fail
  refine (HRR.out w1).mono ?_
  rintro e w2 ⟨hrd, hq2⟩
  have hrd2 : ∃ v, e = .returned (.agg (foundC F.epoch v ((half - F.next : Nat) : Int) F.second)) ∧ OwnS 9 w1 w2 v (F.recs.map strV) := by
    rcases hrd with ⟨h, _⟩ | ⟨_, h⟩
    · exact absurd h HE.out
    · exact h
  obtain ⟨v5, rfl, hv5⟩ := hrd2
  have HU5 := Lib.hid hv5.toS
  obtain ⟨A5, c5, rfl, hA5, hty5⟩ := hv5.toS
  have HQ2 := Lib.hid (HQ1.out.trans hq2)
  obtain ⟨L, hL⟩ : ∃ L, half - F.next = L := ⟨_, rfl⟩
  rw [hL]
  have HL := Lib.hid hL
  have hone : (Value.slice A5 F.recs.length c5).oneCell' = true := rfl
  obtain ⟨LR, hLR⟩ : ∃ L, F.recs.length = L := ⟨_, rfl⟩
  rw [hLR] at hone HU5 ⊢
  have HLR := Lib.hid hLR
  clear hrd hq2 HRR HQ1 hv5 hA5 hty5 hL hLR
  go_upto_region 2 with (refine wpList_store_row rfl 107 (.tmp 3) (.tmp 14) (by rfl) w2.heap.size (foundC F.epoch (.slice A5 LR c5) (L : Int) F.second) (by rfl) (by rfl) 107 _ (heap_alloc_new w2 _) (infoF' _ _ _ _) rfl (foundC_one hone) ?_)
  obtain ⟨G, hG⟩ : ∃ G, w2.heap.size = G := ⟨_, rfl⟩
  have hf6 : FndAt (w2.alloc (.cells (foundC 0 (.slice none 0 0) 0 false) 107)) w2.heap.size 0 (.slice none 0 0) 0 false := (MapKept.heap_alloc w2 _).1
  have hf7 := hf6.row F.epoch (.slice A5 LR c5) (L : Int) F.second
  have hq6 : Q w2 (w2.alloc (.cells (foundC 0 (.slice none 0 0) 0 false) 107)) := (Q.refl _).alloc _
  have hq7 : Q w2 ((w2.alloc (.cells (foundC 0 (.slice none 0 0) 0 false) 107)).setRow w2.heap.size (foundC F.epoch (.slice A5 LR c5) (L : Int) F.second)) := Q.setRow hq6 (Nat.le_refl _) _
  rw [hG] at hf7 hq7 ⊢
  obtain ⟨W7, hW7⟩ : ∃ W, (w2.alloc (.cells (foundC 0 (.slice none 0 0) 0 false) 107)).setRow G (foundC F.epoch (.slice A5 LR c5) (L : Int) F.second) = W := ⟨_, rfl⟩
  have hW7b : (w2.alloc (.cells #[.int .i64 0, .slice none 0 0, .int .i64 0, .bool false] 107)).setRow G (foundC F.epoch (.slice A5 LR c5) (L : Int) F.second) = W7 := hW7
  rw [hW7] at hf7 hq7
  try rw [hW7b]
  try rw [hW7]
  have HF7 := Lib.hid hf7
  have HQ7 := Lib.hid (HQ2.out.trans hq7)
  have HWA7 := Lib.hid (HWA.out.q (HQ2.out.trans hq7))
  have HU7 := Lib.hid (HU5.out.q hq7)
  clear hf6 hf7 hq6 hq7 hW7 hW7b hG HQ2 HU5
  have k1 : ∀ m : QW W7, m.val.cell? ⟨bw, 1, none⟩ = some (.pointer (some ⟨bd, 0, none⟩)) := fun m => m.cell HWA7.out.c1
  have k4 : ∀ m : QW W7, m.val.cell? ⟨bw, 4, none⟩ = some (.int .i64 (f : Int)) := fun m => m.cell HWA7.out.c4
  have k5 : ∀ m : QW W7, m.val.cell? ⟨bw, 5, none⟩ = some (.int .i64 (S : Int)) := fun m => m.cell HWA7.out.c5
  simp only [Act.put]
  refine wp_region_noPanic ?_
  refine wp_plan [([0, 1, 2, 3, 4, 5, 6, 7, 8, 9, 10, 11], [12]), ([13, 14, 15, 16, 17, 18, 19], [])] (by kernel_rfl) (by kernel_rfl) (fun _ _ _ _ _ h => h) ?_
  simp only [wpPlan, wpListK, List.map_cons, List.map_nil, Array.getD_eq_getD_getElem?, List.getElem?_toArray, List.getElem?_cons_succ, List.getElem?_cons_zero, Option.getD_some]
  (repeat (go_big_quiet_step (fail)))
  refine wpQuiet_nil ?_
  clear k1 k4 k5
  obtain ⟨Wd, hWd⟩ : ∃ W, W7.drew = W := ⟨_, rfl⟩
  have hqd : Q W7 Wd := by rw [← hWd]; exact (Q.refl W7).drew
  rw [hWd]
  clear hWd
  intro K hK
  go_wp2_with fail
  refine (HOP.out _ (HQ7.out.trans hqd)).mono ?_
  rintro e w8 ⟨⟨bj, v8, rfl, hv8, hj8, hbj⟩, hq8⟩
  have HQ8 := Lib.hid (hqd.trans hq8)
  have HQ8d := Lib.hid hq8
  have HV8 := Lib.hid hv8
  have HJ8 := Lib.hid hj8
  have HBJ := Lib.hid hbj
  obtain ⟨A8, c8, rfl, _⟩ := hv8.toS
  rw [HLR.out] at HV8 ⊢
  clear hv8 hj8 hbj hq8 HOP
  go_wp2_with fail
  refine hK.out _ _ ⟨⟨_, HQ8.out⟩, rfl⟩ ?_
  clear hK K
  (repeat (go_big_quiet_step (fail)))
  refine wpQuiet_nil ?_
  refine NoPanic.normal ?_
  have e0 := (HF7.out.q HQ8.out).c0
  have e1 := (HF7.out.q HQ8.out).c1
  have g0 : ((F.epoch : Int) == 0) = false := by have := HE.out; simp; omega
  have hlr : LR ≤ 32 := by have := HOK.out.2.2.2; have := HH.out; have := HLR.out; omega
  have HSM : Hid (Calls Tryz.prog 69 #[.slice A8 LR c8, .slice A5 LR c5] w8 fun e w' => e = .returned (.bool true) ∧ Q w8 w') := Lib.hid (by
    obtain ⟨B8, d8, e8, h8, _⟩ := HV8.out.toS
    obtain ⟨B5, d5, e5, h5, _⟩ := HU7.out.q HQ8.out
    rw [HLR.out] at e8 e5
    injection e8 with e81 _ e82
    injection e5 with e51 _ e52
    subst e81 e82 e51 e52
    have := same_any _ _ c8 c5 F.recs F.recs w8 h8 h5 (by rw [HLR.out]; omega) (by rw [HLR.out]; omega)
    rw [HLR.out, decide_eq_true rfl] at this
    exact this)
  go_wp2_with fail
  refine HSM.out.mono ?_
  rintro e w9 ⟨rfl, hq9⟩
  have HQ9 := Lib.hid (HQ8d.out.trans hq9)
  have HV9 := Lib.hid (HV8.out.q hq9)
  have HJ9 := Lib.hid (HJ8.out.q hq9)
  have HQW := Lib.hid hqd
  clear hq9 HSM HV8 HJ8 HQ8d HQ8 e0 e1 hqd
  go_wp2_with fail
  have hus : (F.recs.map strV).length = LR := by rw [List.length_map, HLR.out]
  have HUS := Lib.hid hus
  clear hus
  go_loopw [9] (fun iv wr => ∃ i : Nat, i ≤ LR ∧ iv = .int .i64 (i : Int) ∧ Hid (∃ us, us.length = LR ∧ OwnS 9 Wd wr (.slice A8 LR c8) us) ∧ Hid (JD w0 wr bj bd bp gh (foundJ f half F) d) ∧ Hid (Q Wd wr)) (fun iv _ => LR - (intOf iv).toNat)
  case atStart => exact ⟨0, by omega, rfl, ⟨_, HUS.out, HV9.out⟩, HJ9.out, HQ9.out⟩
  case round =>
    clear HV9 HJ9 HQ9
    obtain ⟨i, hi, rfl, HO, HJ, HQ⟩ := hrel
    by_cases hlt : i < LR
    · have g1 : decide (i < LR) = true := decide_eq_true hlt
      obtain ⟨us, hul, huo⟩ := HO.out
      obtain ⟨g, cp, hv, hgb, hty, hc, hfz, hpk⟩ := huo.poke (x := .string ⟨#[63]⟩) (by rw [hul]; exact hlt)
      rw [hul] at hv
      injection hv with hv1 _ hv2
      subst hv1 hv2
      have hne : bj ≠ g := fun e => by
        subst e
        rw [elemT_of HJ.out.j] at hty; revert hty; decide
      have hj2 := HJ.out.gb (gb_setCell wr g i (.string ⟨#[63]⟩)) (by rw [hty]; decide) hne
      have hq2 := HQ.out.setNew (p := ⟨g, i, none⟩) hgb (.string ⟨#[63]⟩)
      have HO2 : Hid (∃ us, us.length = LR ∧ OwnS 9 Wd (wr.setCell ⟨g, i, none⟩ (.string ⟨#[63]⟩)) (.slice (some ⟨g, 0, none⟩) LR c8) us) := Lib.hid ⟨_, by rw [List.length_set]; exact hul, hpk⟩
      have HJ2 := Lib.hid hj2
      have HQ2 := Lib.hid hq2
      obtain ⟨ui, hui⟩ : ∃ u, wr.cell? ⟨g, i, none⟩ = some u := ⟨_, hc⟩
      clear hc hj2 hq2 hpk huo hul HO HJ HQ
      go_wp2_with fail
      go_roundw
      case rel => exact ⟨i + 1, by omega, by go_num, HO2.out, HJ2.out, HQ2.out⟩
      case measure => simp [intOf]; omega
    · have g1 : decide (i < LR) = false := decide_eq_false hlt
      clear HO hlt
      go_upto_region 13 with (fail)
      have hqr := HQW.out.trans HQ.out
      have HFr := Lib.hid (HF7.out.q hqr)
      have q0 : ∀ m : QW wr, m.val.cell? ⟨G, 0, none⟩ = some (.int .i64 (F.epoch : Int)) := fun m => m.cell HFr.out.c0
      have q2 : ∀ m : QW wr, m.val.cell? ⟨G, 2, none⟩ = some (.int .i64 (L : Int)) := fun m => m.cell HFr.out.c2
      have HLF : Hid (∀ m : QW wr, Calls Tryz.prog 13 #[.pointer (some ⟨bj, 0, none⟩)] m.val fun e w' => e = .returned (.int .i64 (L : Int)) ∧ Q m.val w') := Lib.hid (fun m => by
        have := Left_any (HJ.out.j.q m.le) HOK.out.1
        rw [show (foundJ f half F).half - (foundJ f half F).next = L from HL.out] at this
        exact this)
      have HEP : Hid (∀ m : QW wr, Calls Tryz.prog 16 #[.pointer (some ⟨bj, 0, none⟩)] m.val fun e w' => e = .returned (.int .i64 (F.epoch : Int)) ∧ m.val = w') := Lib.hid (fun m => Epoch_any (HJ.out.j.q m.le))
      have HQR := Lib.hid hqr
      clear hqr
      refine wp_region_q (by kernel_rfl) (by kernel_rfl) ?_
      (repeat (go_big_quiet_step (first | (go_at_call 13; exact calls_q (HLF.out _)) | (go_at_call 16; exact calls_qs (HEP.out _)))))
      refine wpQuiet_nil ?_
      rintro wa ⟨ma, hma⟩
      have HQa : Hid (Q wr wa) := Lib.hid (by rw [hma]; exact ma.le)
      clear hma ma q0 q2 HLF HEP HFr
      have hqa := (HQW.out.trans HQ.out).trans HQa.out
      have hqb := HQ7.out.trans hqa
      obtain ⟨Aa, ca, rfl, _⟩ := HVA.out
      obtain ⟨Ao, co, rfl, _⟩ := HVO.out
      have HSS : Hid (∀ (B : Option Addr) (c : Nat) (ls : List (List UInt8)), StrS w (.slice B ls.length c) ls → ls.length ≤ 1000 → ∀ W', Q wa W' → Calls Tryz.prog 69 #[.slice A5 LR c5, .slice B ls.length c] W' fun e w' => e = .returned (.bool (decide (F.recs = ls))) ∧ Q W' w') := Lib.hid (fun B c ls hs hl W' hq => by
        obtain ⟨B5, d5, e5, h5, _⟩ := HU7.out.q (hqa.trans hq)
        obtain ⟨B6, d6, e6, h6, _⟩ := hs.q (hqb.trans hq)
        rw [HLR.out] at e5
        injection e5 with e51 _ e52
        injection e6 with e61 _ e62
        subst e51 e52 e61 e62
        have := same_any _ _ c5 c F.recs ls W' h5 h6 (by rw [HLR.out]; omega) (by omega)
        rw [HLR.out] at this
        exact this)
      have HFa := Lib.hid (HF7.out.q hqa)
      have HWa := Lib.hid (HWA.out.q hqb)
      have HQB := Lib.hid hqb
      clear hqa hqb
      obtain ⟨x1, hx1⟩ : ∃ x, decide (F.recs = was) = x := ⟨_, rfl⟩
      obtain ⟨x2, hx2⟩ : ∃ x, decide (F.recs = would) = x := ⟨_, rfl⟩
      have HS1 : Hid (∀ m : QW wa, Calls Tryz.prog 69 #[.slice A5 LR c5, .slice Aa was.length ca] m.val fun e w' => e = .returned (.bool (decide (F.recs = was))) ∧ Q m.val w') := Lib.hid (fun m => HSS.out Aa ca was HVA.out HLW.out.1 m.val m.le)
      rw [hx1] at HS1
      have HX1 := Lib.hid hx1
      have HX2 := Lib.hid hx2
      have HS2 := Lib.hid (fun W' hq => HSS.out Ao co would HVO.out HLW.out.2 W' hq)
      rw [hx2] at HS2
      clear hx1 hx2 HSS
      iterate 7 go_step
      have q1 : ∀ m : QW wa, m.val.cell? ⟨G, 1, none⟩ = some (.slice A5 LR c5) := fun m => m.cell HFa.out.c1
      have q9 : ∀ m : QW wa, m.val.cell? ⟨bw, 9, none⟩ = some (.slice Aa was.length ca) := fun m => m.cell HWa.out.c9
      refine wp_region_q (by kernel_rfl) (by kernel_rfl) ?_
      (repeat (go_big_quiet_step ((go_at_call 69; exact calls_q (HS1.out _)))))
      refine wpQuiet_nil ?_
      rintro wb ⟨mb, hmb⟩
      have hqb : Q wa wb := by rw [hmb]; exact mb.le
      have HFb := Lib.hid (HFa.out.q hqb)
      have HWb := Lib.hid (HWa.out.q hqb)
      have HQb := Lib.hid hqb
      clear hmb mb hqb q1 q9 HS1
      iterate 3 go_step
      have q1 : ∀ m : QW wb, m.val.cell? ⟨G, 1, none⟩ = some (.slice A5 LR c5) := fun m => m.cell HFb.out.c1
      have q10 : ∀ m : QW wb, m.val.cell? ⟨bw, 10, none⟩ = some (.slice Ao would.length co) := fun m => m.cell HWb.out.c10
      have HS3 : Hid (∀ m : QW wb, Calls Tryz.prog 69 #[.slice A5 LR c5, .slice Ao would.length co] m.val fun e w' => e = .returned (.bool x2) ∧ Q m.val w') := Lib.hid (fun m => HS2.out m.val (HQb.out.trans m.le))
      refine wp_region_q (by kernel_rfl) (by kernel_rfl) ?_
      (repeat (go_big_quiet_step ((go_at_call 69; exact calls_q (HS3.out _)))))
      refine wpQuiet_nil ?_
      rintro wc ⟨mc, hmc⟩
      have hqc : Q wb wc := by rw [hmc]; exact mc.le
      have hra := HQb.out.trans hqc
      have hrr := HQa.out.trans hra
      have hF := OpF.mk (HJ.out.q hrr) (HWb.out.q hqc) (HRJ.out.q (HQB.out.trans hra)) (HFb.out.q hqc) (HU7.out.q ((HQW.out.trans HQ.out).trans hrr)) ((HQ0.out.trans HQ7.out).trans ((HQW.out.trans HQ.out).trans hrr)) HBW.out HBR.out
      have HX : Hid (rot = true ∨ x1 = true ∨ x2 = true) := Lib.hid (by
        cases hrt : rot with
        | true => exact .inl rfl
        | false =>
          rcases HIN.out hrt with h | h
          · exact .inr (.inl (by rw [← HX1.out]; exact decide_eq_true h))
          · exact .inr (.inr (by rw [← HX2.out]; exact decide_eq_true h)))
      clear hmc mc hqc hra hrr q1 q10 HS2 HS3 HX1 HX2 HIN HFb HWb HQb HFa HWa HQB HQa HQ HJ HVA HVO HWA HWA7 HQR HQW HU7 HF7 HQ7 HDA HQ0 HBW HBR HRJ HLW
      have c2 := hF.w.c2
      have f2 := hF.w.fz 2
      have hF1 := hF.setW 2 _ (hF.w.s2 (.pointer (some ⟨bj, 0, none⟩)))
      clear hF
      go_upto_region 18 with (fail)
      obtain ⟨V1, hV1⟩ : ∃ W, wc.setCell ⟨bw, 2, none⟩ (.pointer (some ⟨bj, 0, none⟩)) = W := ⟨_, rfl⟩
      rw [hV1] at hF1 ⊢
      clear hV1 c2 f2
      have c3 := hF1.w.c3
      have e0 := hF1.f.c0
      have r1 := hF1.r.c1
      have s1 := hF1.r.fz 1
      have hF2 := (hF1.setR 1 _ (hF1.r.s1 (F.epoch : Int))).drew
      clear hF1
      go_region
      obtain ⟨V2, hV2⟩ : ∃ W, (V1.setCell ⟨br, 1, none⟩ (.int .i64 (F.epoch : Int))).drew = W := ⟨_, rfl⟩
      rw [hV2] at hF2 ⊢
      clear hV2 c3 e0 r1 s1
      have c3 := hF2.w.c3
      have e1 := hF2.f.c1
      have r2 := hF2.r.c2
      have s2 := hF2.r.fz 2
      have hF3 := (hF2.setR 2 _ (hF2.r.s2 (.slice A5 LR c5))).drew
      clear hF2
      iterate 3 go_step
      go_region
      obtain ⟨V3, hV3⟩ : ∃ W, (V2.setCell ⟨br, 2, none⟩ (.slice A5 LR c5)).drew = W := ⟨_, rfl⟩
      rw [hV3] at hF3 ⊢
      clear hV3 c3 e1 r2 s2
      have c6 := hF3.w.c6
      have f6 := hF3.w.fz 6
      have h6 := hF3.setW 6 _ (hF3.w.s6 false)
      have c8 := h6.w.c8
      clear hF3
      go_upto_region 21 with (fail)
      obtain ⟨V4, hV4⟩ : ∃ W, V3.setCell ⟨bw, 6, none⟩ (.bool false) = W := ⟨_, rfl⟩
      rw [hV4] at h6 c8 ⊢
      clear hV4 c6 f6
      have e1 := h6.f.c1
      have c9 := h6.w.c9
      have f9 := h6.w.fz 9
      have h9 := h6.setW 9 _ (h6.w.s9 (.slice A5 LR c5))
      have e1' := h9.f.c1
      have c10 := h9.w.c10
      have f10 := h9.w.fz 10
      have h10 := h9.setW 10 _ (h9.w.s10 (.slice A5 LR c5))
      have H10 := Lib.hid h10
      clear h6 h9 h10
      cases rot <;> cases x1 <;> cases x2 <;> first
        | (exact absurd HX.out (by decide))
        | (clear HX
           go_wp2_with fail
           go_ret
           exact ⟨rfl, H10.out.q, bj, _, H10.out.j, H10.out.w, H10.out.s, H10.out.r⟩)
end Go.Proofs.YtcbepjepcabllaaGreatDoor
/- A step of the play: its state in memory; steps of no kind, the fuse. -/
set_option linter.unusedVariables false
set_option linter.unusedSimpArgs false
namespace Go.Proofs.YtcbepjepcabllaaGreatDoor
open Go Go.RowKit
/-- The play's state in memory. -/
structure PWv (w0 w : World) (bw bp bd gh bj br f half : Nat) (wa wo v : Value) (s : PlS) : Prop where
  j : JD w0 w bj bd bp gh s.j s.d
  ww : WAt w bw bp bd (.pointer (some ⟨bj, 0, none⟩)) (.pointer (some ⟨br, 0, none⟩)) (f : Int) ((2 * half : Nat) : Int) s.closed false s.rot wa wo
  r : RJAt w br ((half - 1 : Nat) : Int) (s.ep : Int) v
  rs : StrS w v s.recs
  was : StrS w wa s.was
  would : StrS w wo s.would
  nbw : w0.heap.size ≤ bw
  nbr : w0.heap.size ≤ br
  q : Q w0 w
theorem PWv.up {w0 w w' : World} {bw bp bd gh bj br f half : Nat} {wa wo v : Value} {s : PlS} (h : PWv w0 w bw bp bd gh bj br f half wa wo v s) (hq : Q w w') : PWv w0 w' bw bp bd gh bj br f half wa wo v s :=
  ⟨h.j.q hq, h.ww.q hq, h.r.q hq, h.rs.q hq, h.was.q hq, h.would.q hq, h.nbw, h.nbr, h.q.trans hq⟩
theorem PWv.disk {w0 w w' : World} {bw bp bd gh bj br f half : Nat} {wa wo v : Value} {s : PlS} (h : PWv w0 w bw bp bd gh bj br f half wa wo v s) {d : DskS} (hk : K w0 [] w w') (hd : DAt w0 w' bd bp gh d) : PWv w0 w' bw bp bd gh bj br f half wa wo v { s with d := d } :=
  ⟨h.j.up hk hd, h.ww.k hk (by simp), h.r.k hk (by simp), h.rs.k hk, h.was.k hk, h.would.k hk, h.nbw, h.nbr, hk.toQ h.q (by simp)⟩
/-- What a step leaves: a play that goes on, or nothing is there any more. -/
def StP (w0 w' : World) (bw bp bd gh f half : Nat) (m : List UInt8) : Prop :=
  (∃ bj br wa wo v s, PlOk f half m s ∧ PWv w0 w' bw bp bd gh bj br f half wa wo v s) ∨
  (∃ d pj pr rot wa wo, OutD f half m d ∧ d.n = 64 ∧ d.dead = false ∧ DAt w0 w' bd bp gh d ∧ WAt w' bw bp bd pj pr (f : Int) ((2 * half : Nat) : Int) true true rot wa wo ∧ Q w0 w')
/-- A step in its box. -/
def stepC (k n : Int) (t : List UInt8) (ts ks : Value) (torn : Int) : Array Value := #[.int .i64 k, .int .i64 n, .string ⟨t.toArray⟩, ts, ks, .int .i64 torn]
def SBox (w : World) (b : Nat) (k n : Int) (t : List UInt8) (ts ks : Value) (torn : Int) : Prop := w.heap[b]? = some (.cells (stepC k n t ts ks torn) 48 (0, 0))
section
variable {w w' : World} {b : Nat} {k n : Int} {t : List UInt8} {ts ks : Value} {torn : Int}
theorem SBox.q (h : SBox w b k n t ts ks torn) (hq : Q w w') : SBox w' b k n t ts ks torn := hq.block h
theorem SBox.kk {w0 : World} {S : List Nat} (h : SBox w b k n t ts ks torn) (hk : K w0 S w w') (hs : b ∉ S) : SBox w' b k n t ts ks torn := hk.heap hs (by decide) h
theorem SBox.c0 (h : SBox w b k n t ts ks torn) : w.cell? ⟨b, 0, none⟩ = some (.int .i64 k) := by rw [cell_of_row _ _ _ _ _ _ h]; rfl
theorem SBox.c1 (h : SBox w b k n t ts ks torn) : w.cell? ⟨b, 1, none⟩ = some (.int .i64 n) := by rw [cell_of_row _ _ _ _ _ _ h]; rfl
theorem SBox.c2 (h : SBox w b k n t ts ks torn) : w.cell? ⟨b, 2, none⟩ = some (.string ⟨t.toArray⟩) := by rw [cell_of_row _ _ _ _ _ _ h]; rfl
theorem SBox.c3 (h : SBox w b k n t ts ks torn) : w.cell? ⟨b, 3, none⟩ = some ts := by rw [cell_of_row _ _ _ _ _ _ h]; rfl
theorem SBox.c4 (h : SBox w b k n t ts ks torn) : w.cell? ⟨b, 4, none⟩ = some ks := by rw [cell_of_row _ _ _ _ _ _ h]; rfl
theorem SBox.c5 (h : SBox w b k n t ts ks torn) : w.cell? ⟨b, 5, none⟩ = some (.int .i64 torn) := by rw [cell_of_row _ _ _ _ _ _ h]; rfl
end
section
variable {w0 w : World} {bw bp bd gh bj br f half : Nat} {wa wo v : Value} {s : PlS} {m : List UInt8}
set_option maxRecDepth 100000 in
set_option maxHeartbeats 4000000 in
theorem step_other (h : PWv w0 w bw bp bd gh bj br f half wa wo v s) (ok : PlOk f half m s) (k n : Int) (t : List UInt8) (A1 A2 : Option Addr) (n1 c1 n2 c2 : Nat) (torn : Int) (hk : ¬ (k = 1 ∨ k = 2 ∨ k = 3 ∨ k = 4 ∨ k = 5 ∨ k = 6 ∨ k = 7)) :
    Calls Tryz.prog 12 #[.pointer (some ⟨bw, 0, none⟩), .agg (stepC k n t (.slice A1 n1 c1) (.slice A2 n2 c2) torn)] w fun e w' => e = .returned (.bool true) ∧ StP w0 w' bw bp bd gh f half m := by
  have hq1 : Q w (w.alloc (.cells (stepC k n t (.slice A1 n1 c1) (.slice A2 n2 c2) torn) 48)) := (Q.refl w).alloc _
  have hb : SBox (w.alloc (.cells (stepC k n t (.slice A1 n1 c1) (.slice A2 n2 c2) torn) 48)) w.heap.size k n t (.slice A1 n1 c1) (.slice A2 n2 c2) torn := (MapKept.heap_alloc w _).1
  have H := Lib.hid h
  have OK := Lib.hid ok
  have g1 : (k == 1) = false := by simp; omega
  have g2 : (k == 2) = false := by simp; omega
  have g3 : (k == 3) = false := by simp; omega
  have g4 : (k == 4) = false := by simp; omega
  have g5 : (k == 5) = false := by simp; omega
  have g6 : (k == 6) = false := by simp; omega
  have g7 : (k == 7) = false := by simp; omega
  have hrl := ok.len
  clear hk h ok
  go_enter Tryz.func12, Tryz.ntmps12
  obtain ⟨G, hG⟩ : ∃ G, w.heap.size = G := ⟨_, rfl⟩
  go_upto_region 1 with (fail)
  obtain ⟨W1, hW1⟩ : ∃ W, w.alloc (.cells (stepC k n t (.slice A1 n1 c1) (.slice A2 n2 c2) torn) 48) = W := ⟨_, rfl⟩
  rw [hW1] at hq1 hb ⊢
  rw [hG] at hb
  have hl2 : s.recs.length ≤ 2000000 := by omega
  have HC := Lib.hid (RCopy_any (H.out.up hq1).r (H.out.up hq1).rs hl2)
  have c3 := (H.out.up hq1).ww.c3
  have HB := Lib.hid hb
  have HQ1 := Lib.hid hq1
  clear hq1 hb hW1 hG hl2 hrl
  go_wp2_with fail
  refine HC.out.mono ?_
  rintro e w2 ⟨bn, vn, rfl, hrn, hon, hbn, hq2⟩
  have HB2 := Lib.hid (HB.out.q hq2)
  have HP2 := Lib.hid ((H.out.up HQ1.out).up hq2)
  have k0 := HB2.out.c0
  clear hrn hon hbn hq2 HC c3 HB HQ1
  go_wp2_with fail
  go_ret
  exact ⟨rfl, .inl ⟨_, _, _, _, _, _, OK.out, HP2.out⟩⟩
end
end Go.Proofs.YtcbepjepcabllaaGreatDoor
/- A step of the play: the fuse, rot. -/
set_option linter.unusedVariables false
set_option linter.unusedSimpArgs false
namespace Go.Proofs.YtcbepjepcabllaaGreatDoor
open Go Go.RowKit
theorem PWv.rotd {w0 w : World} {bw bp bd gh bj br f half : Nat} {wa wo v : Value} {s : PlS} (h : PWv w0 w bw bp bd gh bj br f half wa wo v s) : PWv w0 (w.setCell ⟨bw, 8, none⟩ (.bool true)) bw bp bd gh bj br f half wa wo v { s with rot := true } := by
  have hg := gb_setCell w bw 8 (.bool true)
  have e := elemT_of h.ww
  have e1 : bj ≠ bw := fun c => by subst c; rw [elemT_of h.j.j] at e; revert e; decide
  have e2 : br ≠ bw := fun c => by subst c; rw [elemT_of h.r] at e; revert e; decide
  exact ⟨h.j.gb hg (by rw [e]; decide) e1, h.ww.s8 true, h.r.gb hg e2, h.rs.gb hg (by rw [e]; decide), h.was.gb hg (by rw [e]; decide), h.would.gb hg (by rw [e]; decide), h.nbw, h.nbr, gb_q hg h.q h.nbw⟩
theorem sub_set_other (l : List UInt8) (p i : Nat) (x : UInt8) (h : p < i * 64 ∨ i * 64 + 64 ≤ p) : sub (l.set p x) (i * 64) (i * 64 + 64) = sub l (i * 64) (i * 64 + 64) := by
  unfold sub
  apply List.ext_getElem?
  intro k
  by_cases hk : k < 64
  · simp only [List.getElem?_take, List.getElem?_drop, List.getElem?_set]
    grind
  · simp only [List.getElem?_take, List.getElem?_drop, List.getElem?_set]
    grind
theorem wrap_bd (n : Int) : -9223372036854775808 ≤ wrap64 n ∧ wrap64 n ≤ 9223372036854775807 := by unfold wrap64; omega
section
variable {w0 w : World} {bw bp bd gh bj br f half : Nat} {wa wo v : Value} {s : PlS} {m : List UInt8}
set_option maxRecDepth 100000 in
set_option maxHeartbeats 8000000 in
theorem step_fuse (h : PWv w0 w bw bp bd gh bj br f half wa wo v s) (ok : PlOk f half m s) (n : Int) (t : List UInt8) (A1 A2 : Option Addr) (n1 c1 n2 c2 : Nat) (torn : Int) (hn : -9223372036854775808 ≤ n ∧ n ≤ 9223372036854775807) :
    Calls Tryz.prog 12 #[.pointer (some ⟨bw, 0, none⟩), .agg (stepC 4 n t (.slice A1 n1 c1) (.slice A2 n2 c2) torn)] w fun e w' => e = .returned (.bool true) ∧ StP w0 w' bw bp bd gh f half m := by
  have hq1 : Q w (w.alloc (.cells (stepC 4 n t (.slice A1 n1 c1) (.slice A2 n2 c2) torn) 48)) := (Q.refl w).alloc _
  have hb : SBox (w.alloc (.cells (stepC 4 n t (.slice A1 n1 c1) (.slice A2 n2 c2) torn) 48)) w.heap.size 4 n t (.slice A1 n1 c1) (.slice A2 n2 c2) torn := (MapKept.heap_alloc w _).1
  have H := Lib.hid h
  have OK := Lib.hid ok
  have hrl := ok.len
  have HPN := Lib.hid hn
  clear hn
  clear h ok
  go_enter Tryz.func12, Tryz.ntmps12
  obtain ⟨G, hG⟩ : ∃ G, w.heap.size = G := ⟨_, rfl⟩
  go_upto_region 1 with (fail)
  obtain ⟨W1, hW1⟩ : ∃ W, w.alloc (.cells (stepC 4 n t (.slice A1 n1 c1) (.slice A2 n2 c2) torn) 48) = W := ⟨_, rfl⟩
  rw [hW1] at hq1 hb ⊢
  rw [hG] at hb
  have hl2 : s.recs.length ≤ 2000000 := by omega
  have HC := Lib.hid (RCopy_any (H.out.up hq1).r (H.out.up hq1).rs hl2)
  have c3 := (H.out.up hq1).ww.c3
  have HB := Lib.hid hb
  have HQ1 := Lib.hid hq1
  clear hq1 hb hW1 hG hl2 hrl
  go_wp2_with fail
  refine HC.out.mono ?_
  rintro e w2 ⟨bn, vn, rfl, hrn, hon, hbn, hq2⟩
  have HB2 := Lib.hid (HB.out.q hq2)
  have HP2 := Lib.hid ((H.out.up HQ1.out).up hq2)
  have k0 := HB2.out.c0
  clear hrn hon hbn hq2 HC c3 HB HQ1 H
  go_upto_region 22 with (fail)
  have hpz := pickZ_lt n 30 (by decide)
  have HPK : Hid (∀ m : QW w2, Calls Tryz.prog 6 #[.int .i64 n, .int .i64 30] m.val fun e w' => e = .returned (.int .i64 (pickZ n 30)) ∧ m.val = w') := Lib.hid (fun m => pick_any n 30 m.val (by omega) HPN.out)
  obtain ⟨P, hP⟩ : ∃ P, pickZ n 30 = P := ⟨_, rfl⟩
  rw [hP] at hpz HPK
  have HPZ := Lib.hid hpz
  have q0 : ∀ m : QW w2, m.val.cell? ⟨bw, 0, none⟩ = some (.pointer (some ⟨bp, 0, none⟩)) := fun m => m.cell HP2.out.ww.c0
  have b1 : ∀ m : QW w2, m.val.cell? ⟨G, 1, none⟩ = some (.int .i64 n) := fun m => m.cell HB2.out.c1
  clear k0 hP hpz
  refine wp_region_q_tail 7 (by kernel_rfl) (by kernel_rfl) ?_
  simp only [List.take_succ_cons, List.take_zero, List.drop_succ_cons, List.drop_zero, Act.put]
  (repeat (go_big_quiet_step ((go_at_call 6; exact calls_qs (HPK.out _)))))
  refine wpQuiet_nil ?_
  rintro wc ⟨mc, hmc⟩
  have hqc : Q w2 wc := by rw [hmc]; exact mc.le
  have HP3 := Lib.hid (HP2.out.up hqc)
  have HF := Lib.hid (Fuse_any P HP3.out.j.d (by have := HPZ.out; omega))
  clear hmc mc hqc q0 b1 HPK HP2 HB2
  go_wp2_with fail
  refine HF.out.mono ?_
  rintro e w4 ⟨rfl, hd4, hk4⟩
  have HP4 := Lib.hid (HP3.out.disk hk4 hd4)
  clear hd4 hk4 HF HP3
  go_wp2_with fail
  go_ret
  exact ⟨rfl, .inl ⟨_, _, _, _, _, _, OK.out.fuse P (by have := HPZ.out; omega), HP4.out⟩⟩
set_option maxRecDepth 100000 in
set_option maxHeartbeats 8000000 in
theorem step_rot (h : PWv w0 w bw bp bd gh bj br f half wa wo v s) (ok : PlOk f half m s) (n : Int) (t : List UInt8) (A1 A2 : Option Addr) (n1 c1 n2 c2 : Nat) (torn : Int) (hn : -9223372036854775808 ≤ n ∧ n ≤ 9223372036854775807) :
    Calls Tryz.prog 12 #[.pointer (some ⟨bw, 0, none⟩), .agg (stepC 6 n t (.slice A1 n1 c1) (.slice A2 n2 c2) torn)] w fun e w' => e = .returned (.bool true) ∧ StP w0 w' bw bp bd gh f half m := by
  have hq1 : Q w (w.alloc (.cells (stepC 6 n t (.slice A1 n1 c1) (.slice A2 n2 c2) torn) 48)) := (Q.refl w).alloc _
  have hb : SBox (w.alloc (.cells (stepC 6 n t (.slice A1 n1 c1) (.slice A2 n2 c2) torn) 48)) w.heap.size 6 n t (.slice A1 n1 c1) (.slice A2 n2 c2) torn := (MapKept.heap_alloc w _).1
  have H := Lib.hid h
  have OK := Lib.hid ok
  have hrl := ok.len
  have HPN := Lib.hid hn
  clear hn
  clear h ok
  go_enter Tryz.func12, Tryz.ntmps12
  obtain ⟨G, hG⟩ : ∃ G, w.heap.size = G := ⟨_, rfl⟩
  go_upto_region 1 with (fail)
  obtain ⟨W1, hW1⟩ : ∃ W, w.alloc (.cells (stepC 6 n t (.slice A1 n1 c1) (.slice A2 n2 c2) torn) 48) = W := ⟨_, rfl⟩
  rw [hW1] at hq1 hb ⊢
  rw [hG] at hb
  have hl2 : s.recs.length ≤ 2000000 := by omega
  have HC := Lib.hid (RCopy_any (H.out.up hq1).r (H.out.up hq1).rs hl2)
  have c3 := (H.out.up hq1).ww.c3
  have HB := Lib.hid hb
  have HQ1 := Lib.hid hq1
  clear hq1 hb hW1 hG hl2 hrl
  go_wp2_with fail
  refine HC.out.mono ?_
  rintro e w2 ⟨bn, vn, rfl, hrn, hon, hbn, hq2⟩
  have HB2 := Lib.hid (HB.out.q hq2)
  have HP2 := Lib.hid ((H.out.up HQ1.out).up hq2)
  have k0 := HB2.out.c0
  clear hrn hon hbn hq2 HC c3 HB HQ1 H
  go_upto_region 28 with (fail)
  have c6 := HP2.out.ww.c6
  obtain ⟨cl, hcl⟩ : ∃ b, s.closed = b := ⟨_, rfl⟩
  rw [hcl] at c6
  have HCL := Lib.hid hcl
  clear hcl
  cases cl with
  | true =>
    go_wp2_with fail
    go_ret
    exact ⟨rfl, .inl ⟨_, _, _, _, _, _, OK.out, HP2.out⟩⟩
  | false =>
    have c8 := HP2.out.ww.c8
    have f8 := HP2.out.ww.fz 8
    have HP3 := Lib.hid HP2.out.rotd
    have HB3 : Hid (SBox (w2.setCell ⟨bw, 8, none⟩ (.bool true)) G 6 n t (.slice A1 n1 c1) (.slice A2 n2 c2) torn) := Lib.hid (by
      unfold SBox
      rw [(gb_setCell w2 bw 8 (.bool true)).block G (lt_of_heap HB2.out) (fun e => by injection e with e; subst e; have e := elemT_of HB2.out; rw [elemT_of HP2.out.ww] at e; revert e; decide)]
      exact HB2.out)
    go_upto_region 30 with (fail)
    obtain ⟨W3, hW3⟩ : ∃ W, w2.setCell ⟨bw, 8, none⟩ (.bool true) = W := ⟨_, rfl⟩
    rw [hW3] at HP3 HB3 ⊢
    clear hW3 c8 f8 c6 HP2 HB2 k0
    have hpl := OK.out.place
    have hh2 := OK.out.half2
    obtain ⟨S, hS⟩ : ∃ S, 2 * half = S := ⟨_, rfl⟩
    rw [hS] at hpl
    have HS := Lib.hid hS
    have hS4 : 4 ≤ S := by omega
    have hp1 := pickZ_lt (wrap64 (n.tdiv 512)) S (by omega)
    have hp2 := pickZ_lt n 512 (by decide)
    have HPK1 : Hid (∀ m : QW W3, Calls Tryz.prog 6 #[.int .i64 (wrap64 (n.tdiv 512)), .int .i64 (S : Int)] m.val fun e w' => e = .returned (.int .i64 (pickZ (wrap64 (n.tdiv 512)) S)) ∧ m.val = w') := Lib.hid (fun m => pick_any _ _ m.val (by omega) (wrap_bd _))
    have HPK2 : Hid (∀ m : QW W3, Calls Tryz.prog 6 #[.int .i64 n, .int .i64 512] m.val fun e w' => e = .returned (.int .i64 (pickZ n 512)) ∧ m.val = w') := Lib.hid (fun m => pick_any n 512 m.val (by omega) HPN.out)
    obtain ⟨P1, hP1⟩ : ∃ P : Nat, pickZ (wrap64 (n.tdiv 512)) S = (P : Int) := ⟨(pickZ (wrap64 (n.tdiv 512)) S).toNat, by omega⟩
    obtain ⟨P2, hP2⟩ : ∃ P : Nat, pickZ n 512 = (P : Int) := ⟨(pickZ n 512).toNat, by omega⟩
    rw [hP1] at hp1 HPK1
    rw [hP2] at hp2 HPK2
    have q1 : ∀ m : QW W3, m.val.cell? ⟨bw, 1, none⟩ = some (.pointer (some ⟨bd, 0, none⟩)) := fun m => m.cell HP3.out.ww.c1
    have q4 : ∀ m : QW W3, m.val.cell? ⟨bw, 4, none⟩ = some (.int .i64 (f : Int)) := fun m => m.cell HP3.out.ww.c4
    have q5 : ∀ m : QW W3, m.val.cell? ⟨bw, 5, none⟩ = some (.int .i64 (S : Int)) := fun m => by rw [← HS.out]; exact m.cell HP3.out.ww.c5
    have b1 : ∀ m : QW W3, m.val.cell? ⟨G, 1, none⟩ = some (.int .i64 n) := fun m => m.cell HB3.out.c1
    have hp1n : P1 < S := by omega
    have hp2n : P2 < 512 := by omega
    have HP1 := Lib.hid hp1n
    have HP2n := Lib.hid hp2n
    have hfi : (f : Int) + (P1 : Int) ≤ 64 := by omega
    clear hP1 hP2 hp1 hp2 hp1n hp2n hS hS4 hh2
    refine wp_region_q_tail 20 (by kernel_rfl) (by kernel_rfl) ?_
    simp only [List.take_succ_cons, List.take_zero, List.drop_succ_cons, List.drop_zero, Act.put]
    (repeat (go_big_quiet_step (first | (go_at_call 6; with_reducible exact calls_qs (HPK1.out _)) | (go_at_call 6; with_reducible exact calls_qs (HPK2.out _)))))
    refine wpQuiet_nil ?_
    rintro wc ⟨mc, hmc⟩
    have hqc : Q W3 wc := by rw [hmc]; exact mc.le
    have HP4 := Lib.hid (HP3.out.up hqc)
    have hpl := OK.out.place
    have HR := Lib.hid (Rot_any (f + P1) P2 HP4.out.j.d (by have h1 := HP1.out; have h2 := HS.out; show f + P1 < s.d.n; rw [OK.out.n]; omega) HP2n.out OK.out.dead)
    rw [show ((f + P1 : Nat) : Int) = (f : Int) + (P1 : Int) by omega] at HR
    clear hmc mc hqc q1 q4 q5 b1 HPK1 HPK2 HP3 HB3
    go_wp2_with fail
    refine HR.out.mono ?_
    rintro e w4 ⟨rfl, ⟨x, hd4⟩, hk4⟩
    have HP5 := Lib.hid (HP4.out.disk hk4 hd4)
    clear hd4 hk4 HR HP4
    go_wp2_with fail
    go_ret
    refine ⟨rfl, .inl ⟨_, _, _, _, _, _, OK.out.turn HCL.out _ (by rw [List.length_set]) (fun i h1 h2 => sub_set_other _ _ _ _ ?_), HP5.out⟩⟩
    have e1 := HP1.out
    have e2 := HP2n.out
    have e3 := HS.out
    clear HP5 OK HPN
    omega
end
end Go.Proofs.YtcbepjepcabllaaGreatDoor
/- A step of the play: power comes again; the journal is opened anew. -/
set_option linter.unusedVariables false
set_option linter.unusedSimpArgs false
namespace Go.Proofs.YtcbepjepcabllaaGreatDoor
open Go Go.RowKit
section
variable {w0 w : World} {bw bp bd gh bj br f half : Nat} {wa wo v : Value} {s : PlS} {m : List UInt8}
set_option maxRecDepth 100000 in
theorem wopen_any {pj wa wo vr : Value} {E : Int} {closed rot : Bool} {d : DskS} {was would : List (List UInt8)} (h : WAt w bw bp bd pj (.pointer (some ⟨br, 0, none⟩)) (f : Int) ((2 * half : Nat) : Int) closed false rot wa wo) (hd : DAt w0 w bd bp gh d) (out : OutD f half m d) (hdead : d.dead = false) (hgone : d.gone = false) (hw : d.wait = []) (hn : d.n = 64) (hh : 2 ≤ half) (hpl : f + 2 * half ≤ 64) (hr : RJAt w br ((half - 1 : Nat) : Int) E vr) (hwa : StrS w wa was) (hwo : StrS w wo would) (hlw : was.length ≤ 100 ∧ would.length ≤ 100)
    (hi : rot = false → ∃ j r, JInv j (lvD d) r ∧ j.first = f ∧ j.half = half ∧ (r = was ∨ r = would)) (hbw : w0.heap.size ≤ bw) (hbr : w0.heap.size ≤ br) (hq0 : Q w0 w) :
    Calls Tryz.prog 40 #[.pointer (some ⟨bw, 0, none⟩)] w fun e w' => e = .returned (.bool true) ∧ StP w0 w' bw bp bd gh f half m := by
  by_cases he : (openF f half d).epoch = 0
  · have hrt : rot = true := by
      cases hrt : rot with
      | true => rfl
      | false =>
        obtain ⟨j, r, hj, h1, h2, _⟩ := hi hrt
        exact absurd he (open_inv hj h1 h2).1
    subst hrt
    refine (wopen_blank h hd hdead hgone hw hn hh hpl he hbw hq0).mono ?_
    rintro e w' ⟨rfl, hq, hd', hw'⟩
    exact ⟨rfl, .inr ⟨d, _, _, _, _, _, out, hn, hdead, hd', hw', hq⟩⟩
  · refine (wopen_found h hd hdead hgone hw hn hh hpl he hr hwa hwo ⟨by omega, by omega⟩ (fun hrt => ?_) hbw hbr hq0).mono ?_
    · obtain ⟨j, r, hj, h1, h2, h3⟩ := hi hrt
      rw [(open_inv hj h1 h2).2]; exact h3
    · rintro e w' ⟨rfl, hq, bj', v', hj', hw', hs', hr'⟩
      refine ⟨rfl, .inl ⟨bj', br, v', v', v', _, PlOk.opened (rot := rot) out hn hdead hgone hw hpl hh he (fun hrt => ?_), ⟨hj', hw', hr', hs', hs', hs', hbw, hbr, hq⟩⟩⟩
      obtain ⟨j, r, hj, h1, h2, _⟩ := hi hrt
      exact ⟨j, r, hj, h1, h2⟩
theorem PlOk.again {f half : Nat} {m : List UInt8} {s : PlS} (ok : PlOk f half m s) (keep : List Bool) {torn : Nat} (ht : torn ≤ 64) (hrt : s.rot = false) : ∃ j r, JInv j (crashD s.d keep torn) r ∧ j.first = f ∧ j.half = half ∧ (r = s.was ∨ r = s.would) := by
  cases hc : s.closed with
  | true => exact ok.crash hc hrt keep torn ht
  | false =>
    obtain ⟨h1, h2, h3⟩ := ok.inv hc hrt
    rw [crash_none (ok.live hc).1]
    exact ⟨s.j, s.recs, h1, ok.jf, ok.jh, .inl h2.symm⟩
set_option maxRecDepth 100000 in
set_option maxHeartbeats 8000000 in
theorem step_lose (h : PWv w0 w bw bp bd gh bj br f half wa wo v s) (ok : PlOk f half m s) (n : Int) (t : List UInt8) (A1 A2 : Option Addr) (n1 c1 n2 c2 : Nat) (torn : Int) {ks : List Bool} (hks : BoolsAt w0 A2 n2 ks) :
    Calls Tryz.prog 12 #[.pointer (some ⟨bw, 0, none⟩), .agg (stepC 5 n t (.slice A1 n1 c1) (.slice A2 n2 c2) torn)] w fun e w' => e = .returned (.bool true) ∧ StP w0 w' bw bp bd gh f half m := by
  have hq1 : Q w (w.alloc (.cells (stepC 5 n t (.slice A1 n1 c1) (.slice A2 n2 c2) torn) 48)) := (Q.refl w).alloc _
  have hb : SBox (w.alloc (.cells (stepC 5 n t (.slice A1 n1 c1) (.slice A2 n2 c2) torn) 48)) w.heap.size 5 n t (.slice A1 n1 c1) (.slice A2 n2 c2) torn := (MapKept.heap_alloc w _).1
  have H := Lib.hid h
  have OK := Lib.hid ok
  have hrl := ok.len
  have HKS := Lib.hid hks
  clear hks
  clear h ok
  go_enter Tryz.func12, Tryz.ntmps12
  obtain ⟨G, hG⟩ : ∃ G, w.heap.size = G := ⟨_, rfl⟩
  go_upto_region 1 with (fail)
  obtain ⟨W1, hW1⟩ : ∃ W, w.alloc (.cells (stepC 5 n t (.slice A1 n1 c1) (.slice A2 n2 c2) torn) 48) = W := ⟨_, rfl⟩
  rw [hW1] at hq1 hb ⊢
  rw [hG] at hb
  have hl2 : s.recs.length ≤ 2000000 := by omega
  have HC := Lib.hid (RCopy_any (H.out.up hq1).r (H.out.up hq1).rs hl2)
  have c3 := (H.out.up hq1).ww.c3
  have HB := Lib.hid hb
  have HQ1 := Lib.hid hq1
  clear hq1 hb hW1 hG hl2 hrl
  go_wp2_with fail
  refine HC.out.mono ?_
  rintro e w2 ⟨bn, vn, rfl, hrn, hon, hbn, hq2⟩
  have HB2 := Lib.hid (HB.out.q hq2)
  have HP2 := Lib.hid ((H.out.up HQ1.out).up hq2)
  have k0 := HB2.out.c0
  clear hrn hon hbn hq2 HC c3 HB HQ1 H
  go_upto_region 24 with (fail)
  have q0 := HP2.out.ww.c0
  have HON := Lib.hid (On_any HP2.out.j.d)
  clear k0
  go_wp2_with fail
  refine HON.out.mono ?_
  rintro e w3 ⟨rfl, hd3, hk3⟩
  have HP3 := Lib.hid (HP2.out.disk hk3 hd3)
  have hne : G ∉ ([] : List Nat) := by simp
  have HB3 := Lib.hid (HB2.out.kk hk3 hne)
  clear hd3 hk3 HON HP2 HB2 q0 hne
  go_upto_region 25 with (fail)
  have q1 : ∀ m : QW w3, m.val.cell? ⟨bw, 1, none⟩ = some (.pointer (some ⟨bd, 0, none⟩)) := fun m => m.cell HP3.out.ww.c1
  have b4 : ∀ m : QW w3, m.val.cell? ⟨G, 4, none⟩ = some (.slice A2 n2 c2) := fun m => m.cell HB3.out.c4
  have b5 : ∀ m : QW w3, m.val.cell? ⟨G, 5, none⟩ = some (.int .i64 torn) := fun m => m.cell HB3.out.c5
  refine wp_region_q_tail 8 (by kernel_rfl) (by kernel_rfl) ?_
  simp only [List.take_succ_cons, List.take_zero, List.drop_succ_cons, List.drop_zero, Act.put]
  (repeat (go_big_quiet_step (fail)))
  refine wpQuiet_nil ?_
  rintro wc ⟨mc, hmc⟩
  have hqc : Q w3 wc := by rw [hmc]; exact mc.le
  have HP4 := Lib.hid (HP3.out.up hqc)
  have hwt := OK.out.waits
  have hwt2 : s.d.wait.length ≤ 1000000 := by omega
  have HL := Lib.hid (Lose_any A2 n2 c2 ks torn HP4.out.j.d HKS.out HP4.out.q hwt2)
  clear hmc mc hqc q1 b4 b5 HP3 HB3 hwt hwt2
  go_wp2_with fail
  refine HL.out.mono ?_
  rintro e w5 ⟨rfl, hd5, hk5⟩
  have HP5 := Lib.hid (HP4.out.disk hk5 hd5)
  clear hd5 hk5 HL HP4
  have HO : Hid (Calls Tryz.prog 40 #[.pointer (some ⟨bw, 0, none⟩)] w5 fun e w' => e = .returned (.bool true) ∧ StP w0 w' bw bp bd gh f half m) := Lib.hid (by
    obtain ⟨T, hT⟩ : ∃ T, (min (max torn 0) 64).toNat = T := ⟨_, rfl⟩
    have hT64 : T ≤ 64 := by omega
    have hp := HP5.out
    rw [hT] at hp
    have hd : DAt w0 w5 bd bp gh (crashD s.d ks T) := hp.j.d
    obtain ⟨ho1, ho2⟩ := OK.out.out.lose ks hT64 false (-1) (by omega)
    exact wopen_any hp.ww hd ho1 OK.out.dead rfl rfl (ho2.trans OK.out.n) OK.out.half2 OK.out.place hp.r hp.was hp.would OK.out.lw (fun hrt => OK.out.again ks hT64 hrt) hp.nbw hp.nbr hp.q)
  clear HP5
  go_wp2_with fail
  refine HO.out.mono ?_
  rintro e w6 ⟨rfl, hst⟩
  have HST := Lib.hid hst
  clear hst HO
  go_wp2_with fail
  go_ret
  exact ⟨rfl, HST.out⟩
set_option maxRecDepth 100000 in
set_option maxHeartbeats 8000000 in
theorem step_open (h : PWv w0 w bw bp bd gh bj br f half wa wo v s) (ok : PlOk f half m s) (n : Int) (t : List UInt8) (A1 A2 : Option Addr) (n1 c1 n2 c2 : Nat) (torn : Int) (het : ErrT w0) :
    Calls Tryz.prog 12 #[.pointer (some ⟨bw, 0, none⟩), .agg (stepC 3 n t (.slice A1 n1 c1) (.slice A2 n2 c2) torn)] w fun e w' => e = .returned (.bool true) ∧ StP w0 w' bw bp bd gh f half m := by
  have hq1 : Q w (w.alloc (.cells (stepC 3 n t (.slice A1 n1 c1) (.slice A2 n2 c2) torn) 48)) := (Q.refl w).alloc _
  have hb : SBox (w.alloc (.cells (stepC 3 n t (.slice A1 n1 c1) (.slice A2 n2 c2) torn) 48)) w.heap.size 3 n t (.slice A1 n1 c1) (.slice A2 n2 c2) torn := (MapKept.heap_alloc w _).1
  have H := Lib.hid h
  have OK := Lib.hid ok
  have hrl := ok.len
  have HET := Lib.hid het
  clear het
  clear h ok
  go_enter Tryz.func12, Tryz.ntmps12
  obtain ⟨G, hG⟩ : ∃ G, w.heap.size = G := ⟨_, rfl⟩
  go_upto_region 1 with (fail)
  obtain ⟨W1, hW1⟩ : ∃ W, w.alloc (.cells (stepC 3 n t (.slice A1 n1 c1) (.slice A2 n2 c2) torn) 48) = W := ⟨_, rfl⟩
  rw [hW1] at hq1 hb ⊢
  rw [hG] at hb
  have hl2 : s.recs.length ≤ 2000000 := by omega
  have HC := Lib.hid (RCopy_any (H.out.up hq1).r (H.out.up hq1).rs hl2)
  have c3 := (H.out.up hq1).ww.c3
  have HB := Lib.hid hb
  have HQ1 := Lib.hid hq1
  clear hq1 hb hW1 hG hl2 hrl
  go_wp2_with fail
  refine HC.out.mono ?_
  rintro e w2 ⟨bn, vn, rfl, hrn, hon, hbn, hq2⟩
  have HB2 := Lib.hid (HB.out.q hq2)
  have HP2 := Lib.hid ((H.out.up HQ1.out).up hq2)
  have k0 := HB2.out.c0
  clear hrn hon hbn hq2 HC c3 HB HQ1 H
  go_upto_region 14 with (fail)
  have q0 := HP2.out.ww.c0
  have HG := Lib.hid (Gone_any HP2.out.j.d)
  obtain ⟨cl, hcl⟩ : ∃ b, s.closed = b := ⟨_, rfl⟩
  have hgo : s.d.gone = cl := OK.out.gone.trans hcl
  rw [hgo] at HG
  have HCL := Lib.hid hcl
  have HGO := Lib.hid hgo
  clear hcl hgo k0
  cases cl with
  | true =>
    go_wp2_with fail
    refine HG.out.mono ?_
    rintro e w3 ⟨rfl, rfl⟩
    go_upto_region 15 with (fail)
    clear HG q0
    have hpl := OK.out.place
    have hh2 := OK.out.half2
    have hwt := OK.out.waits
    have hwt2 : s.d.wait.length ≤ 900000 := by omega
    have HOP := Lib.hid (fun w' (hq : Q w2 w') => Open_gone f half (HP2.out.j.d.q hq) hh2 (by rw [OK.out.n]; exact hpl) (Nat.le_trans HP2.out.q.size hq.size) hwt2 HGO.out (HET.out.q (HP2.out.q.trans hq)))
    obtain ⟨S, hS⟩ : ∃ S, 2 * half = S := ⟨_, rfl⟩
    rw [hS] at HOP
    have q1 : ∀ m : QW w2, m.val.cell? ⟨bw, 1, none⟩ = some (.pointer (some ⟨bd, 0, none⟩)) := fun m => m.cell HP2.out.ww.c1
    have q4 : ∀ m : QW w2, m.val.cell? ⟨bw, 4, none⟩ = some (.int .i64 (f : Int)) := fun m => m.cell HP2.out.ww.c4
    have q5 : ∀ m : QW w2, m.val.cell? ⟨bw, 5, none⟩ = some (.int .i64 (S : Int)) := fun m => by rw [← hS]; exact m.cell HP2.out.ww.c5
    clear hS hh2 hwt hwt2 hpl
    refine wp_region_noPanic ?_
    refine wp_plan [([0, 1, 2, 3, 4, 5, 6, 7, 8, 9, 10, 11], [12]), ([13, 14, 15, 16, 17, 18, 19], [])] (by kernel_rfl) (by kernel_rfl) (fun _ _ _ _ _ h => h) ?_
    simp only [wpPlan, wpListK, List.map_cons, List.map_nil, Array.getD_eq_getD_getElem?, List.getElem?_toArray, List.getElem?_cons_succ, List.getElem?_cons_zero, Option.getD_some]
    (repeat (go_big_quiet_step (fail)))
    refine wpQuiet_nil ?_
    clear q1 q4 q5
    obtain ⟨Wd, hWd⟩ : ∃ W, w2.drew = W := ⟨_, rfl⟩
    have hqd : Q w2 Wd := by rw [← hWd]; exact (Q.refl w2).drew
    rw [hWd]
    clear hWd
    intro K hK
    go_wp2_with fail
    refine (HOP.out _ hqd).mono ?_
    rintro e w8 ⟨⟨b, rfl, hb8⟩, hq8⟩
    have HQ8 := Lib.hid (hqd.trans hq8)
    have HI := Lib.hid (is_pow b w8 hb8 (HET.out.q (HP2.out.q.trans (hqd.trans hq8))))
    clear hb8 hq8 hqd HOP
    go_wp2_with fail
    refine hK.out _ _ ⟨⟨_, HQ8.out⟩, rfl⟩ ?_
    clear hK K
    (repeat (go_big_quiet_step (fail)))
    refine wpQuiet_nil ?_
    refine NoPanic.normal ?_
    go_wp2_with fail
    refine HI.out.mono ?_
    rintro e w9 ⟨rfl, hq9⟩
    have HQ9 := Lib.hid (HQ8.out.trans hq9)
    clear hq9 HI HQ8
    go_wp2_with fail
    go_ret
    exact ⟨rfl, .inl ⟨_, _, _, _, _, _, OK.out, HP2.out.up HQ9.out⟩⟩
  | false =>
    have q1 := HP2.out.ww.c1
    have hwt := OK.out.waits
    have HPN := Lib.hid (Pending_any HP2.out.j.d (by omega))
    rw [(OK.out.live HCL.out).1, show ((([] : List (Nat × List UInt8)).length : Nat) : Int) = 0 from rfl] at HPN
    have HO : Hid (Calls Tryz.prog 40 #[.pointer (some ⟨bw, 0, none⟩)] w2 fun e w' => e = .returned (.bool true) ∧ StP w0 w' bw bp bd gh f half m) := Lib.hid (by
      have hp := HP2.out
      exact wopen_any hp.ww hp.j.d OK.out.out OK.out.dead HGO.out (OK.out.live HCL.out).1 OK.out.n OK.out.half2 OK.out.place hp.r hp.was hp.would OK.out.lw (fun hrt => ⟨s.j, s.recs, (OK.out.inv HCL.out hrt).1, OK.out.jf, OK.out.jh, .inl (OK.out.inv HCL.out hrt).2.1.symm⟩) hp.nbw hp.nbr hp.q)
    clear hwt
    go_wp2_with fail
    refine HG.out.mono ?_
    rintro e w3 ⟨rfl, rfl⟩
    go_wp2_with fail
    refine HPN.out.mono ?_
    rintro e w3 ⟨rfl, rfl⟩
    go_wp2_with fail
    refine HO.out.mono ?_
    rintro e w6 ⟨rfl, hst⟩
    have HST := Lib.hid hst
    clear hst HO
    go_wp2_with fail
    go_ret
    exact ⟨rfl, HST.out⟩
end
end Go.Proofs.YtcbepjepcabllaaGreatDoor
