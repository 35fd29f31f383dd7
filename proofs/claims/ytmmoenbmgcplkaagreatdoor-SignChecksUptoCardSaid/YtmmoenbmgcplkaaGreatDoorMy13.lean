/- Texts of this proof, laid into one: SgQ, MoD, MoH, MoE. -/
import Derived.Test.YtmmoenbmgcplkaaGreatDoorMy12
set_option linter.unusedVariables false
set_option linter.unusedSimpArgs false
namespace Go.Proofs.YtmmoenbmgcplkaaGreatDoor
open Go Go.RowKit
theorem headS_len (h s : List UInt8) : (headS h s).length ≤ s.length := by
  unfold headS Lib.trimPrefix Lib.trimLeftB
  have := (List.dropWhile_sublist (p := (· == (32 : UInt8))) (l := s)).length_le
  split
  · rw [List.length_drop]; omega
  · exact this
theorem upto_len (c : UInt8) (s : List UInt8) : (uptoP c s).length ≤ s.length ∧ (uptoS c s).length ≤ s.length := by
  have h := cutB_len c s
  unfold uptoP uptoS
  rcases hb : (cutB c s).2.2 with _ | _
  · obtain ⟨h1, h2⟩ := h.2 hb; rw [h1, h2]; simp
  · have := h.1 hb; omega
theorem trim_t (l : List UInt8) : (Lib.trimS l tensW).isEmpty = l.all chrT := by
  have e : (Lib.trimS l tensW).isEmpty = (Lib.trimS l tensW == []) := by cases Lib.trimS l tensW <;> rfl
  rw [e, Bool.eq_iff_iff, beq_iff_eq, trimS_nil, List.all_eq_true]
  constructor
  · intro h x hx; rw [← set_ten]; exact h x hx
  · intro h x hx; rw [set_ten]; exact h x hx
theorem trim_x (l : List UInt8) : (Lib.trimS l hexsW).isEmpty = l.all chrX := by
  have e : (Lib.trimS l hexsW).isEmpty = (Lib.trimS l hexsW == []) := by cases Lib.trimS l hexsW <;> rfl
  rw [e, Bool.eq_iff_iff, beq_iff_eq, trimS_nil, List.all_eq_true]
  constructor
  · intro h x hx; rw [← set_hex]; exact h x hx
  · intro h x hx; rw [set_hex]; exact h x hx
theorem trimt_any (l : List UInt8) (w : World) (hl : l.length ≤ 9223372036854775807) : Calls Tryz.prog 109 #[.string ⟨l.toArray⟩, .string ⟨#[48, 49, 50, 51, 52, 53, 54, 55, 56, 57]⟩] w fun e w' => e = .returned (.string ⟨(Lib.trimS l tensW).toArray⟩) ∧ Q w w' :=
  Any.strings_Trim_laid Tryz.lays160 (by kernel_rfl) ⟨l.toArray⟩ ⟨#[48, 49, 50, 51, 52, 53, 54, 55, 56, 57]⟩ w hl (by decide) (ascii_of_all (by decide))
theorem trimx_any (l : List UInt8) (w : World) (hl : l.length ≤ 9223372036854775807) : Calls Tryz.prog 109 #[.string ⟨l.toArray⟩, .string ⟨#[48, 49, 50, 51, 52, 53, 54, 55, 56, 57, 97, 98, 99, 100, 101, 102]⟩] w fun e w' => e = .returned (.string ⟨(Lib.trimS l hexsW).toArray⟩) ∧ Q w w' :=
  Any.strings_Trim_laid Tryz.lays160 (by kernel_rfl) ⟨l.toArray⟩ ⟨#[48, 49, 50, 51, 52, 53, 54, 55, 56, 57, 97, 98, 99, 100, 101, 102]⟩ w hl (by decide) (ascii_of_all (by decide))
theorem fault_gx {w w' : World} {b : Nat} {c a : Int} {S : List Nat} (h : FaultAt w b c a) (hg : GX S w w') (hb : b ∉ S) : FaultAt w' b c a := hg.heap hb h
theorem fault_ne {w : World} {b N : Nat} {c a : Int} {k : ClaimD} {v : Value} (h : FaultAt w b c a) (hz : LB w N k v) : b ≠ N := by
  intro e; subst e
  have := h.symm.trans hz
  injection this with this; injection this with _ this; exact absurd this (by decide)
theorem read_boxes (w : World) (s : List UInt8) (ok : Bool) : ∃ N w1 w2 w3, w.heap.size = N ∧ w.alloc (.cells (claimV zeroC (.slice none 0 0)).toArray 113) = w1 ∧ w1.heap.size = N + 1 ∧ w1.alloc (.cells #[.string ⟨s.toArray⟩, .bool ok] 180) = w2 ∧ w2.heap.size = N + 2 ∧ w2.alloc (.cells (claimV zeroC (.slice none 0 0)).toArray 113) = w3 ∧
    RdAt w w3 N s ok zeroC (.slice none 0 0) := by
  have q1 : Q w (w.alloc (.cells (claimV zeroC (.slice none 0 0)).toArray 113)) := (Q.refl w).alloc _
  have hs1 : (w.alloc (.cells (claimV zeroC (.slice none 0 0)).toArray 113)).heap.size = w.heap.size + 1 := by show (w.heap.push _).size = _; simp
  have b1 : LB (w.alloc (.cells (claimV zeroC (.slice none 0 0)).toArray 113)) w.heap.size zeroC (.slice none 0 0) := heap_alloc_new w _
  obtain ⟨w1, e1⟩ : ∃ W, w.alloc (.cells (claimV zeroC (.slice none 0 0)).toArray 113) = W := ⟨_, rfl⟩
  rw [e1] at q1 hs1 b1
  have q2 : Q w1 (w1.alloc (.cells #[.string ⟨s.toArray⟩, .bool ok] 180)) := (Q.refl w1).alloc _
  have hs2 : (w1.alloc (.cells #[.string ⟨s.toArray⟩, .bool ok] 180)).heap.size = w1.heap.size + 1 := by show (w1.heap.push _).size = _; simp
  have b2 : CB (w1.alloc (.cells #[.string ⟨s.toArray⟩, .bool ok] 180)) w1.heap.size s ok := heap_alloc_new w1 _
  obtain ⟨w2, e2⟩ : ∃ W, w1.alloc (.cells #[.string ⟨s.toArray⟩, .bool ok] 180) = W := ⟨_, rfl⟩
  rw [e2] at q2 hs2 b2
  have q3 : Q w2 (w2.alloc (.cells (claimV zeroC (.slice none 0 0)).toArray 113)) := (Q.refl w2).alloc _
  have b3 : LB (w2.alloc (.cells (claimV zeroC (.slice none 0 0)).toArray 113)) w2.heap.size zeroC (.slice none 0 0) := heap_alloc_new w2 _
  refine ⟨w.heap.size, w1, w2, _, rfl, e1, hs1, e2, by omega, rfl, Nat.le_refl _, q1.trans (q2.trans q3), b1.q (q2.trans q3), ?_, ?_⟩
  · rw [← hs1]; exact b2.q q3
  · rw [show w.heap.size + 2 = w2.heap.size by omega]; exact b3
set_option maxRecDepth 100000 in
set_option maxHeartbeats 4000000 in
theorem read_any (s : List UInt8) (w : World) (hs : s.length ≤ 10000000) (hS : U13 w) : Calls Tryz.prog 78 #[.string ⟨s.toArray⟩] w (ReadPost17 (readQ s) w) := by
  have HHd := Lib.hid (fun b s h ok W (hb : CB W b s ok) => head_any b s h ok W hb)
  have HM := Lib.hid (fun W (hq : Q w W) => (hS.q hq).ml)
  have HUp := Lib.hid (fun b s c ok W (hb : CB W b s ok) (hq : Q w W) (hl : s.length ≤ 10000000) => upto_any b s c ok W hb (HM.out W hq) (by omega))
  have HSp := Lib.hid (fun l c W (hq : Q w W) (hl : l.length ≤ 10000000) => splitN_any l c W (HM.out W hq) (by omega))
  have HP := Lib.hid (Tryz.strings_HasPrefix ⟨s.toArray⟩ ⟨#[65, 87, 83, 52, 45, 72, 77, 65, 67, 45, 83, 72, 65, 50, 53, 54, 32]⟩)
  have HRD : Hid (rdW s = rdW s) := Lib.hid rfl
  have l1 := headS_len methodL s
  have l2 := headS_len credW (headS methodL s)
  obtain ⟨l3a, l3b⟩ := upto_len 44 (headS credW (headS methodL s))
  obtain ⟨l4a, l4b⟩ := upto_len 47 (uptoP 44 (headS credW (headS methodL s)))
  obtain ⟨l5a, l5b⟩ := upto_len 47 (uptoS 47 (uptoP 44 (headS credW (headS methodL s))))
  obtain ⟨l6a, l6b⟩ := upto_len 47 (uptoS 47 (uptoS 47 (uptoP 44 (headS credW (headS methodL s)))))
  have l7 := headS_len shdW (uptoS 44 (headS credW (headS methodL s)))
  obtain ⟨l8a, l8b⟩ := upto_len 44 (headS shdW (uptoS 44 (headS credW (headS methodL s))))
  have l9 := headS_len sgnW (uptoS 44 (headS shdW (uptoS 44 (headS credW (headS methodL s)))))
  obtain ⟨B0, hB0⟩ : ∃ x, Lib.hasPrefix s methodS = x := ⟨_, rfl⟩
  obtain ⟨S1, hS1⟩ : ∃ x, headS methodL s = x := ⟨_, rfl⟩
  obtain ⟨B1, hB1⟩ : ∃ x, headB methodL s = x := ⟨_, rfl⟩
  rw [hS1] at l1 l2 l3a l3b l4a l4b l5a l5b l6a l6b l7 l8a l8b l9
  obtain ⟨S2, hS2⟩ : ∃ x, headS credW S1 = x := ⟨_, rfl⟩
  obtain ⟨B2, hB2⟩ : ∃ x, headB credW S1 = x := ⟨_, rfl⟩
  rw [hS2] at l2 l3a l3b l4a l4b l5a l5b l6a l6b l7 l8a l8b l9
  obtain ⟨PT, hPT⟩ : ∃ x, uptoP 44 S2 = x := ⟨_, rfl⟩
  obtain ⟨S3, hS3⟩ : ∃ x, uptoS 44 S2 = x := ⟨_, rfl⟩
  obtain ⟨B3, hB3⟩ : ∃ x, uptoB 44 S2 = x := ⟨_, rfl⟩
  rw [hPT] at l3a l4a l4b l5a l5b l6a l6b
  rw [hS3] at l3b l7 l8a l8b l9
  obtain ⟨ID, hID⟩ : ∃ x, uptoP 47 PT = x := ⟨_, rfl⟩
  obtain ⟨P1, hP1⟩ : ∃ x, uptoS 47 PT = x := ⟨_, rfl⟩
  obtain ⟨C1, hC1⟩ : ∃ x, uptoB 47 PT = x := ⟨_, rfl⟩
  rw [hID] at l4a
  rw [hP1] at l4b l5a l5b l6a l6b
  obtain ⟨DY, hDY⟩ : ∃ x, uptoP 47 P1 = x := ⟨_, rfl⟩
  obtain ⟨P2, hP2⟩ : ∃ x, uptoS 47 P1 = x := ⟨_, rfl⟩
  obtain ⟨C2, hC2⟩ : ∃ x, uptoB 47 P1 = x := ⟨_, rfl⟩
  rw [hDY] at l5a
  rw [hP2] at l5b l6a l6b
  obtain ⟨RG, hRG⟩ : ∃ x, uptoP 47 P2 = x := ⟨_, rfl⟩
  obtain ⟨P3, hP3⟩ : ∃ x, uptoS 47 P2 = x := ⟨_, rfl⟩
  obtain ⟨C3, hC3⟩ : ∃ x, uptoB 47 P2 = x := ⟨_, rfl⟩
  rw [hRG] at l6a
  rw [hP3] at l6b
  obtain ⟨S4, hS4⟩ : ∃ x, headS shdW S3 = x := ⟨_, rfl⟩
  obtain ⟨B4, hB4⟩ : ∃ x, headB shdW S3 = x := ⟨_, rfl⟩
  rw [hS4] at l7 l8a l8b l9
  obtain ⟨LS, hLS⟩ : ∃ x, uptoP 44 S4 = x := ⟨_, rfl⟩
  obtain ⟨S5, hS5⟩ : ∃ x, uptoS 44 S4 = x := ⟨_, rfl⟩
  obtain ⟨B5, hB5⟩ : ∃ x, uptoB 44 S4 = x := ⟨_, rfl⟩
  rw [hLS] at l8a
  rw [hS5] at l8b l9
  obtain ⟨SG, hSG⟩ : ∃ x, headS sgnW S5 = x := ⟨_, rfl⟩
  obtain ⟨B6, hB6⟩ : ∃ x, headB sgnW S5 = x := ⟨_, rfl⟩
  rw [hSG] at l9
  have HR : Hid (rdW s = ⟨((((((B0 && B1) && B2) && B3) && B4) && B5) && B6), (((true && C1) && C2) && C3), P3, ⟨ID, DY, RG, SG, splitC 59 LS⟩⟩) := Lib.hid (by
    unfold rdW
    simp only [hS1, hB1, hS2, hB2, hPT, hS3, hB3, hID, hP1, hC1, hDY, hP2, hC2, hRG, hP3, hC3, hS4, hB4, hLS, hS5, hB5, hSG, hB6, hB0])
  have HH1 : Hid (∀ b ok W, CB W b s ok → Calls Tryz.prog 128 #[.pointer (some ⟨b, 0, none⟩), .string ⟨#[65, 87, 83, 52, 45, 72, 77, 65, 67, 45, 83, 72, 65, 50, 53, 54]⟩] W fun e w' => e = .returned (.tuple #[]) ∧ CB w' b S1 (ok && B1) ∧ GX [b] W w') := Lib.hid (fun b ok W h => by have := HHd.out b s methodL ok W h; rw [hS1, hB1] at this; exact this)
  have HH2 : Hid (∀ b ok W, CB W b S1 ok → Calls Tryz.prog 128 #[.pointer (some ⟨b, 0, none⟩), .string ⟨#[67, 114, 101, 100, 101, 110, 116, 105, 97, 108, 61]⟩] W fun e w' => e = .returned (.tuple #[]) ∧ CB w' b S2 (ok && B2) ∧ GX [b] W w') := Lib.hid (fun b ok W h => by have := HHd.out b S1 credW ok W h; rw [hS2, hB2] at this; exact this)
  have HU3 : Hid (∀ b ok W, CB W b S2 ok → Q w W → Calls Tryz.prog 129 #[.pointer (some ⟨b, 0, none⟩), .string ⟨#[44]⟩] W fun e w' => e = .returned (.string ⟨PT.toArray⟩) ∧ CB w' b S3 (ok && B3) ∧ GX [b] W w') := Lib.hid (fun b ok W h hq => by have := HUp.out b S2 44 ok W h hq (by omega); rw [hPT, hS3, hB3] at this; exact this)
  have HC1 : Hid (∀ b ok W, CB W b PT ok → Q w W → Calls Tryz.prog 129 #[.pointer (some ⟨b, 0, none⟩), .string ⟨#[47]⟩] W fun e w' => e = .returned (.string ⟨ID.toArray⟩) ∧ CB w' b P1 (ok && C1) ∧ GX [b] W w') := Lib.hid (fun b ok W h hq => by have := HUp.out b PT 47 ok W h hq (by omega); rw [hID, hP1, hC1] at this; exact this)
  have HC2 : Hid (∀ b ok W, CB W b P1 ok → Q w W → Calls Tryz.prog 129 #[.pointer (some ⟨b, 0, none⟩), .string ⟨#[47]⟩] W fun e w' => e = .returned (.string ⟨DY.toArray⟩) ∧ CB w' b P2 (ok && C2) ∧ GX [b] W w') := Lib.hid (fun b ok W h hq => by have := HUp.out b P1 47 ok W h hq (by omega); rw [hDY, hP2, hC2] at this; exact this)
  have HC3 : Hid (∀ b ok W, CB W b P2 ok → Q w W → Calls Tryz.prog 129 #[.pointer (some ⟨b, 0, none⟩), .string ⟨#[47]⟩] W fun e w' => e = .returned (.string ⟨RG.toArray⟩) ∧ CB w' b P3 (ok && C3) ∧ GX [b] W w') := Lib.hid (fun b ok W h hq => by have := HUp.out b P2 47 ok W h hq (by omega); rw [hRG, hP3, hC3] at this; exact this)
  have HH4 : Hid (∀ b ok W, CB W b S3 ok → Calls Tryz.prog 128 #[.pointer (some ⟨b, 0, none⟩), .string ⟨#[83, 105, 103, 110, 101, 100, 72, 101, 97, 100, 101, 114, 115, 61]⟩] W fun e w' => e = .returned (.tuple #[]) ∧ CB w' b S4 (ok && B4) ∧ GX [b] W w') := Lib.hid (fun b ok W h => by have := HHd.out b S3 shdW ok W h; rw [hS4, hB4] at this; exact this)
  have HU5 : Hid (∀ b ok W, CB W b S4 ok → Q w W → Calls Tryz.prog 129 #[.pointer (some ⟨b, 0, none⟩), .string ⟨#[44]⟩] W fun e w' => e = .returned (.string ⟨LS.toArray⟩) ∧ CB w' b S5 (ok && B5) ∧ GX [b] W w') := Lib.hid (fun b ok W h hq => by have := HUp.out b S4 44 ok W h hq (by omega); rw [hLS, hS5, hB5] at this; exact this)
  have HH6 : Hid (∀ b ok W, CB W b S5 ok → Calls Tryz.prog 128 #[.pointer (some ⟨b, 0, none⟩), .string ⟨#[83, 105, 103, 110, 97, 116, 117, 114, 101, 61]⟩] W fun e w' => e = .returned (.tuple #[]) ∧ CB w' b SG (ok && B6) ∧ GX [b] W w') := Lib.hid (fun b ok W h => by have := HHd.out b S5 sgnW ok W h; rw [hSG, hB6] at this; exact this)
  have HSS := Lib.hid (fun W (hq : Q w W) => HSp.out LS 59 W hq (by omega))
  have HP' : Hid (∀ W, Calls Tryz.prog 104 #[.string ⟨s.toArray⟩, .string ⟨#[65, 87, 83, 52, 45, 72, 77, 65, 67, 45, 83, 72, 65, 50, 53, 54, 32]⟩] W fun e w' => e = .returned (.bool B0) ∧ w' = W) := Lib.hid (fun W => by have := HP.out W; rw [← hB0]; exact this)
  have hlI : ID.length ≤ 10000000 := by omega
  have hlD : DY.length ≤ 10000000 := by omega
  have hlS : SG.length ≤ 10000000 := by omega
  clear hB0 hS1 hB1 hS2 hB2 hPT hS3 hB3 hID hP1 hC1 hDY hP2 hC2 hRG hP3 hC3 hS4 hB4 hLS hS5 hB5 hSG hB6 HP HUp HSp HHd HRD l1 l2 l3a l3b l4a l4b l5a l5b l6a l6b l7 l8a l8b l9
  obtain ⟨N, w1, w2, w3, hN, e1, hN1, e2, hN2, e3, hrd⟩ := read_boxes w s B0
  have HA := Lib.hid hrd
  clear hrd
  simp only [claimV, zeroC] at e1 e3
  go_enter Tryz.func78, Tryz.ntmps78
  go_wp2_with fail
  refine (HP'.out _).mono ?_
  rintro e wx ⟨rfl, rfl⟩
  go_wp2_with fail
  refine (HH1.out _ _ _ HA.out.ct).mono ?_
  rintro e v1 ⟨rfl, hc, hg⟩
  have HA1 := Lib.hid (HA.out.cut hg hc)
  clear hc hg e1 e2 e3 hN HA
  go_wp2_with fail
  refine (HH2.out _ _ _ HA1.out.ct).mono ?_
  rintro e v2 ⟨rfl, hc, hg⟩
  have HA2 := Lib.hid (HA1.out.cut hg hc)
  clear hc hg HA1
  go_wp2_with fail
  refine (HU3.out _ _ _ HA2.out.ct HA2.out.q).mono ?_
  rintro e v3 ⟨rfl, hc, hg⟩
  have HA3 := Lib.hid (HA2.out.cut hg hc)
  clear hc hg HA2
  obtain ⟨M, hM⟩ : ∃ M, v3.heap.size = M := ⟨_, rfl⟩
  obtain ⟨v4, hv4⟩ : ∃ W, v3.alloc (.cells #[.string ⟨PT.toArray⟩, .bool true] 180) = W := ⟨_, rfl⟩
  have hq4 : Q v3 v4 := by rw [← hv4]; exact (Q.refl v3).alloc _
  have hcm : CB v4 M PT true := by rw [← hv4, ← hM]; exact heap_alloc_new v3 _
  have hNM : N + 2 < M := by rw [← hM]; exact HA3.out.x.lt
  have HA4 := Lib.hid (HA3.out.mv hq4)
  have HM4 := Lib.hid hcm
  clear hq4 hcm HA3
  go_upto_region 6 with (fail)
  clear hv4 hM
  go_wp2_with fail
  refine (HC1.out _ _ _ HM4.out HA4.out.q).mono ?_
  rintro e v5 ⟨rfl, hc, hg⟩
  have HA5 := Lib.hid (HA4.out.part hg hNM)
  have HM5 := Lib.hid hc
  clear hc hg HA4 HM4
  go_wp2_with fail
  refine (HC2.out _ _ _ HM5.out HA5.out.q).mono ?_
  rintro e v6 ⟨rfl, hc, hg⟩
  have HA6 := Lib.hid (HA5.out.part hg hNM)
  have HM6 := Lib.hid hc
  clear hc hg HA5 HM5
  go_wp2_with fail
  refine (HC3.out _ _ _ HM6.out HA6.out.q).mono ?_
  rintro e v7 ⟨rfl, hc, hg⟩
  have HA7 := Lib.hid (HA6.out.part hg hNM)
  have HM7 := Lib.hid hc
  clear hc hg HA6 HM6
  have c0 := HA7.out.x.c.1
  have f0 := HA7.out.x.f 0
  have HA8 := Lib.hid (HA7.out.put (HA7.out.x.set0 ID))
  have HM8 := Lib.hid (HM7.out.putX (i := 0) (u := .string ⟨ID.toArray⟩) (show M ≠ N + 2 by omega))
  have c1 := HA8.out.x.c.2.1
  have f1 := HA8.out.x.f 1
  have HA9 := Lib.hid (HA8.out.put (HA8.out.x.set1 DY))
  have HM9 := Lib.hid (HM8.out.putX (i := 1) (u := .string ⟨DY.toArray⟩) (show M ≠ N + 2 by omega))
  have c2 := HA9.out.x.c.2.2.1
  have f2 := HA9.out.x.f 2
  have HAa := Lib.hid (HA9.out.put (HA9.out.x.set2 RG))
  have HMa := Lib.hid (HM9.out.putX (i := 2) (u := .string ⟨RG.toArray⟩) (show M ≠ N + 2 by omega))
  simp only [zeroC] at c0 c1 c2
  clear HA7 HM7 HA8 HM8 HA9 HM9
  go_upto_region 7 with (fail)
  generalize ((v7.setCell ⟨N + 2, 0, none⟩ (.string ⟨ID.toArray⟩)).setCell ⟨N + 2, 1, none⟩ (.string ⟨DY.toArray⟩)).setCell ⟨N + 2, 2, none⟩ (.string ⟨RG.toArray⟩) = va at HAa HMa ⊢
  clear c0 c1 c2 f0 f1 f2
  go_wp2_with fail
  refine (HH4.out _ _ _ HAa.out.ct).mono ?_
  rintro e vb ⟨rfl, hc, hg⟩
  have HAb := Lib.hid (HAa.out.cut hg hc)
  have HMb := Lib.hid (HMa.out.x hg (by simp; omega))
  clear hc hg HAa HMa
  go_wp2_with fail
  refine (HU5.out _ _ _ HAb.out.ct HAb.out.q).mono ?_
  rintro e vc ⟨rfl, hc, hg⟩
  have HAc := Lib.hid (HAb.out.cut hg hc)
  have HMc := Lib.hid (HMb.out.x hg (by simp; omega))
  clear hc hg HAb HMb
  go_wp2_with fail
  refine (HSS.out _ HAc.out.q).mono ?_
  rintro e vd ⟨rfl, hn, hq⟩
  have HAd := Lib.hid (HAc.out.mv hq)
  have HMd := Lib.hid (HMc.out.q hq)
  have HNd := Lib.hid hn
  have hNN : N + 2 < vc.heap.size := HAc.out.x.lt
  clear hn hq HAc HMc
  obtain ⟨NB, hNB⟩ : ∃ x, vc.heap.size = x := ⟨_, rfl⟩
  rw [hNB] at HNd hNN
  have c4 := HAd.out.x.c.2.2.2.2
  have f4 := HAd.out.x.f 4
  obtain ⟨NL, hNL⟩ : ∃ x, splitC 59 LS = x := ⟨_, rfl⟩
  rw [hNL] at HNd HR
  have hge : GX [N + 2] vd (vd.setCell ⟨N + 2, 4, none⟩ (.slice (some ⟨NB, 0, none⟩) NL.length NL.length)) := (GX.refl _ vd).set (by simp) _ _
  have HAe := Lib.hid (HAd.out.put (HAd.out.x.set4 (.slice (some ⟨NB, 0, none⟩) NL.length NL.length)))
  have HMe := Lib.hid (HMd.out.putX (i := 4) (u := .slice (some ⟨NB, 0, none⟩) NL.length NL.length) (show M ≠ N + 2 by omega))
  have HNe : Hid (NmAt (vd.setCell ⟨N + 2, 4, none⟩ (.slice (some ⟨NB, 0, none⟩) NL.length NL.length)) (some ⟨NB, 0, none⟩) NL.length NL) := Lib.hid (HNd.out.gx hge (fun g off e => by injection e with e; injection e with e1 e2; simp; omega))
  clear hge HAd HMd HNd
  go_upto_region 9 with (fail)
  clear hNB hNL
  generalize vd.setCell ⟨N + 2, 4, none⟩ (.slice (some ⟨NB, 0, none⟩) NL.length NL.length) = ve at HAe HMe HNe ⊢
  clear c4 f4
  go_wp2_with fail
  refine (HH6.out _ _ _ HAe.out.ct).mono ?_
  rintro e vf ⟨rfl, hc, hg⟩
  have HAf := Lib.hid (HAe.out.cut hg hc)
  have HMf := Lib.hid (HMe.out.x hg (by simp; omega))
  have HNf := Lib.hid (HNe.out.gx hg (fun g off e => by injection e with e; injection e with e1 e2; simp; omega))
  clear hc hg HAe HMe HNe
  have c0 := HAf.out.ct.c0
  have c3 := HAf.out.x.c.2.2.2.1
  have f3 := HAf.out.x.f 3
  have hge : GX [N + 2] vf (vf.setCell ⟨N + 2, 3, none⟩ (.string ⟨SG.toArray⟩)) := (GX.refl _ vf).set (by simp) _ _
  have HAg := Lib.hid (HAf.out.put (HAf.out.x.set3 SG))
  have HMg := Lib.hid (HMf.out.putX (i := 3) (u := .string ⟨SG.toArray⟩) (show M ≠ N + 2 by omega))
  have HNg := Lib.hid (HNf.out.gx hge (fun g off e => by injection e with e; injection e with e1 e2; simp; omega))
  clear hge HAf HMf HNf
  simp only [zeroC] at c3
  go_upto_region 12 with (fail)
  generalize vf.setCell ⟨N + 2, 3, none⟩ (.string ⟨SG.toArray⟩) = vg at HAg HMg HNg ⊢
  clear c0 c3 f3 HH1 HH2 HU3 HC1 HC2 HC3 HH4 HU5 HH6 HSS HP' HM
  have HWd := Lib.hid (fun W => word_any ID W (by omega))
  have HT1 := Lib.hid (fun W => trimt_any DY W (by omega))
  have HT2 := Lib.hid (fun W => trimx_any SG W (by omega))
  have ht1 := trim_t DY
  have ht2 := trim_x SG
  generalize Lib.trimS DY tensW = TD at HT1 ht1
  generalize Lib.trimS SG hexsW = TS at HT2 ht2
  generalize (B0 && B1 && B2 && B3 && B4 && B5 && B6) = OK at HR HAg
  generalize (true && C1 && C2 && C3) = OP at HR HMg
  clear hlI hS
  have c1 := HAg.out.ct.c1
  have m1 := HMg.out.c1
  have m0 := HMg.out.c0
  have x0 := HAg.out.x.c.1
  simp only at x0
  rcases OK with _ | _
  ·
    have HNo : Hid (readQ s = none) := Lib.hid (by unfold readQ; rw [if_neg (fun h => by have := h.1; rw [HR.out] at this; cases this)])
    go_wp2_with fail
    refine (stop_any 72 _).mono ?_
    rintro e wx ⟨⟨bf, rfl, hf⟩, hq⟩
    have HAx := Lib.hid (HAg.out.mv hq)
    have HFx := Lib.hid hf
    clear hf hq c1 m1 m0 x0
    go_wp2_with (refine wpList_store_row rfl 113 _ _ rfl N (claimV zeroC (.slice none 0 0)).toArray (by rfl) (by rfl) 113 _ HAx.out.z (infoClm _ _) rfl (claimV_one _ _ _ _) ?_)
    have hz2 := HAx.out.z.row zeroC (.slice none 0 0)
    have hg2 : GX [N] wx (wx.setRow N (claimV zeroC (.slice none 0 0)).toArray) := (GX.refl _ wx).setRow (by simp) _
    have hq2 : Q w (wx.setRow N (claimV zeroC (.slice none 0 0)).toArray) := hg2.toQ HAx.out.q (fun k hk => by have := HAx.out.lo; simp at hk; omega)
    have hf2 : FaultAt (wx.setRow N (claimV zeroC (.slice none 0 0)).toArray) bf 72 0 := fault_gx HFx.out hg2 (by intro e; exact fault_ne HFx.out HAx.out.z (by simpa using e))
    generalize wx.setRow N (claimV zeroC (.slice none 0 0)).toArray = W9 at hz2 hq2 hf2 ⊢
    clear hg2
    have HZ9 := Lib.hid hz2
    have HQ9 := Lib.hid hq2
    have HF9 := Lib.hid hf2
    clear hz2 hq2 hf2 HFx HAx
    go_wp2_with fail
    refine bodyPost_ret (v := .tuple #[.agg (claimV zeroC (.slice none 0 0)).toArray, .iface 101 (.pointer (some ⟨bf, 0, none⟩))]) ?_ rfl (by unfold ReadPost17; rw [HNo.out]; exact ⟨⟨bf, rfl, HF9.out⟩, HQ9.out⟩)
    exact results_cell_row2 rfl _ _ N 113 _ (0, 0) _ _ (by rfl) (by rfl) HZ9.out Tryz.underlying113 rfl (infoClm _ _)
  rcases OP with _ | _
  ·
    have HNo : Hid (readQ s = none) := Lib.hid (by unfold readQ; rw [if_neg (fun h => by have := h.2.1; rw [HR.out] at this; cases this)])
    go_wp2_with fail
    refine (stop_any 72 _).mono ?_
    rintro e wx ⟨⟨bf, rfl, hf⟩, hq⟩
    have HAx := Lib.hid (HAg.out.mv hq)
    have HFx := Lib.hid hf
    clear hf hq c1 m1 m0 x0
    go_wp2_with (refine wpList_store_row rfl 113 _ _ rfl N (claimV zeroC (.slice none 0 0)).toArray (by rfl) (by rfl) 113 _ HAx.out.z (infoClm _ _) rfl (claimV_one _ _ _ _) ?_)
    have hz2 := HAx.out.z.row zeroC (.slice none 0 0)
    have hg2 : GX [N] wx (wx.setRow N (claimV zeroC (.slice none 0 0)).toArray) := (GX.refl _ wx).setRow (by simp) _
    have hq2 : Q w (wx.setRow N (claimV zeroC (.slice none 0 0)).toArray) := hg2.toQ HAx.out.q (fun k hk => by have := HAx.out.lo; simp at hk; omega)
    have hf2 : FaultAt (wx.setRow N (claimV zeroC (.slice none 0 0)).toArray) bf 72 0 := fault_gx HFx.out hg2 (by intro e; exact fault_ne HFx.out HAx.out.z (by simpa using e))
    generalize wx.setRow N (claimV zeroC (.slice none 0 0)).toArray = W9 at hz2 hq2 hf2 ⊢
    clear hg2
    have HZ9 := Lib.hid hz2
    have HQ9 := Lib.hid hq2
    have HF9 := Lib.hid hf2
    clear hz2 hq2 hf2 HFx HAx
    go_wp2_with fail
    refine bodyPost_ret (v := .tuple #[.agg (claimV zeroC (.slice none 0 0)).toArray, .iface 101 (.pointer (some ⟨bf, 0, none⟩))]) ?_ rfl (by unfold ReadPost17; rw [HNo.out]; exact ⟨⟨bf, rfl, HF9.out⟩, HQ9.out⟩)
    exact results_cell_row2 rfl _ _ N 113 _ (0, 0) _ _ (by rfl) (by rfl) HZ9.out Tryz.underlying113 rfl (infoClm _ _)
  by_cases hP3 : P3 = s3L
  rotate_left
  ·
    have HNo : Hid (readQ s = none) := Lib.hid (by unfold readQ; rw [if_neg (fun h => by have := h.2.2.1; rw [HR.out] at this; exact hP3 this)])
    have gp : (P3 == [115, 51, 47, 97, 119, 115, 52, 95, 114, 101, 113, 117, 101, 115, 116]) = false := by
      simp only [beq_eq_false_iff_ne, ne_eq]; exact hP3
    clear hP3
    go_wp2_with fail
    refine (stop_any 72 _).mono ?_
    rintro e wx ⟨⟨bf, rfl, hf⟩, hq⟩
    have HAx := Lib.hid (HAg.out.mv hq)
    have HFx := Lib.hid hf
    clear hf hq c1 m1 m0 x0
    go_wp2_with (refine wpList_store_row rfl 113 _ _ rfl N (claimV zeroC (.slice none 0 0)).toArray (by rfl) (by rfl) 113 _ HAx.out.z (infoClm _ _) rfl (claimV_one _ _ _ _) ?_)
    have hz2 := HAx.out.z.row zeroC (.slice none 0 0)
    have hg2 : GX [N] wx (wx.setRow N (claimV zeroC (.slice none 0 0)).toArray) := (GX.refl _ wx).setRow (by simp) _
    have hq2 : Q w (wx.setRow N (claimV zeroC (.slice none 0 0)).toArray) := hg2.toQ HAx.out.q (fun k hk => by have := HAx.out.lo; simp at hk; omega)
    have hf2 : FaultAt (wx.setRow N (claimV zeroC (.slice none 0 0)).toArray) bf 72 0 := fault_gx HFx.out hg2 (by intro e; exact fault_ne HFx.out HAx.out.z (by simpa using e))
    generalize wx.setRow N (claimV zeroC (.slice none 0 0)).toArray = W9 at hz2 hq2 hf2 ⊢
    clear hg2
    have HZ9 := Lib.hid hz2
    have HQ9 := Lib.hid hq2
    have HF9 := Lib.hid hf2
    clear hz2 hq2 hf2 HFx HAx
    go_wp2_with fail
    refine bodyPost_ret (v := .tuple #[.agg (claimV zeroC (.slice none 0 0)).toArray, .iface 101 (.pointer (some ⟨bf, 0, none⟩))]) ?_ rfl (by unfold ReadPost17; rw [HNo.out]; exact ⟨⟨bf, rfl, HF9.out⟩, HQ9.out⟩)
    exact results_cell_row2 rfl _ _ N 113 _ (0, 0) _ _ (by rfl) (by rfl) HZ9.out Tryz.underlying113 rfl (infoClm _ _)
  subst hP3
  rcases hw : wordL ID with _ | _
  ·
    have HNo : Hid (readQ s = none) := Lib.hid (by unfold readQ; rw [if_neg (fun h => by have := h.2.2.2.1; rw [HR.out] at this; exact Bool.false_ne_true (hw.symm.trans this))])
    rw [hw] at HWd
    unfold s3L at m0
    go_wp2_with fail
    refine (HWd.out _).mono ?_
    rintro e vh ⟨rfl, hq⟩
    have HAh := Lib.hid (HAg.out.mv hq)
    clear hq c1 m1 m0 x0
    go_wp2_with fail
    refine (stop_any 72 _).mono ?_
    rintro e wx ⟨⟨bf, rfl, hf⟩, hq⟩
    have HAx := Lib.hid (HAh.out.mv hq)
    have HFx := Lib.hid hf
    clear hf hq hw
    go_wp2_with (refine wpList_store_row rfl 113 _ _ rfl N (claimV zeroC (.slice none 0 0)).toArray (by rfl) (by rfl) 113 _ HAx.out.z (infoClm _ _) rfl (claimV_one _ _ _ _) ?_)
    have hz2 := HAx.out.z.row zeroC (.slice none 0 0)
    have hg2 : GX [N] wx (wx.setRow N (claimV zeroC (.slice none 0 0)).toArray) := (GX.refl _ wx).setRow (by simp) _
    have hq2 : Q w (wx.setRow N (claimV zeroC (.slice none 0 0)).toArray) := hg2.toQ HAx.out.q (fun k hk => by have := HAx.out.lo; simp at hk; omega)
    have hf2 : FaultAt (wx.setRow N (claimV zeroC (.slice none 0 0)).toArray) bf 72 0 := fault_gx HFx.out hg2 (by intro e; exact fault_ne HFx.out HAx.out.z (by simpa using e))
    generalize wx.setRow N (claimV zeroC (.slice none 0 0)).toArray = W9 at hz2 hq2 hf2 ⊢
    clear hg2
    have HZ9 := Lib.hid hz2
    have HQ9 := Lib.hid hq2
    have HF9 := Lib.hid hf2
    clear hz2 hq2 hf2 HFx HAx
    go_wp2_with fail
    refine bodyPost_ret (v := .tuple #[.agg (claimV zeroC (.slice none 0 0)).toArray, .iface 101 (.pointer (some ⟨bf, 0, none⟩))]) ?_ rfl (by unfold ReadPost17; rw [HNo.out]; exact ⟨⟨bf, rfl, HF9.out⟩, HQ9.out⟩)
    exact results_cell_row2 rfl _ _ N 113 _ (0, 0) _ _ (by rfl) (by rfl) HZ9.out Tryz.underlying113 rfl (infoClm _ _)
  rw [hw] at HWd
  unfold s3L at m0
  go_wp2_with fail
  refine (HWd.out _).mono ?_
  rintro e vh ⟨rfl, hq⟩
  have HAh := Lib.hid (HAg.out.mv hq)
  have HNh := Lib.hid (HNg.out.q hq)
  have y1 := HAh.out.x.c.2.1
  have y3 := HAh.out.x.c.2.2.2.1
  simp only at y1 y3
  clear hq c1 m1 m0 x0 HAg HMg HNg HWd
  by_cases hD : DY.length = 8
  rotate_left
  ·
    have HNo : Hid (readQ s = none) := Lib.hid (by unfold readQ; rw [if_neg (fun h => by have := h.2.2.2.2.1; rw [HR.out] at this; exact hD this)])
    have gd : (((DY.length : Int)) != 8) = true := by simp only [bne_iff_ne, ne_eq]; omega
    clear hD
    go_wp2_with fail
    refine (stop_any 72 _).mono ?_
    rintro e wx ⟨⟨bf, rfl, hf⟩, hq⟩
    have HAx := Lib.hid (HAh.out.mv hq)
    have HFx := Lib.hid hf
    clear hf hq y1 y3
    go_wp2_with (refine wpList_store_row rfl 113 _ _ rfl N (claimV zeroC (.slice none 0 0)).toArray (by rfl) (by rfl) 113 _ HAx.out.z (infoClm _ _) rfl (claimV_one _ _ _ _) ?_)
    have hz2 := HAx.out.z.row zeroC (.slice none 0 0)
    have hg2 : GX [N] wx (wx.setRow N (claimV zeroC (.slice none 0 0)).toArray) := (GX.refl _ wx).setRow (by simp) _
    have hq2 : Q w (wx.setRow N (claimV zeroC (.slice none 0 0)).toArray) := hg2.toQ HAx.out.q (fun k hk => by have := HAx.out.lo; simp at hk; omega)
    have hf2 : FaultAt (wx.setRow N (claimV zeroC (.slice none 0 0)).toArray) bf 72 0 := fault_gx HFx.out hg2 (by intro e; exact fault_ne HFx.out HAx.out.z (by simpa using e))
    generalize wx.setRow N (claimV zeroC (.slice none 0 0)).toArray = W9 at hz2 hq2 hf2 ⊢
    clear hg2
    have HZ9 := Lib.hid hz2
    have HQ9 := Lib.hid hq2
    have HF9 := Lib.hid hf2
    clear hz2 hq2 hf2 HFx HAx
    go_wp2_with fail
    refine bodyPost_ret (v := .tuple #[.agg (claimV zeroC (.slice none 0 0)).toArray, .iface 101 (.pointer (some ⟨bf, 0, none⟩))]) ?_ rfl (by unfold ReadPost17; rw [HNo.out]; exact ⟨⟨bf, rfl, HF9.out⟩, HQ9.out⟩)
    exact results_cell_row2 rfl _ _ N 113 _ (0, 0) _ _ (by rfl) (by rfl) HZ9.out Tryz.underlying113 rfl (infoClm _ _)
  have gd : (((DY.length : Int)) != 8) = false := by rw [hD]; rfl
  rcases hA : DY.all chrT with _ | _
  ·
    have HNo : Hid (readQ s = none) := Lib.hid (by unfold readQ; rw [if_neg (fun h => by have := h.2.2.2.2.2.1; rw [HR.out] at this; exact Bool.false_ne_true (hA.symm.trans this))])
    rw [hA] at ht1
    have HD8 := Lib.hid hD
    clear hD
    go_wp2_with fail
    refine (HT1.out _).mono ?_
    rintro e vi ⟨rfl, hq⟩
    have HAi := Lib.hid (HAh.out.mv hq)
    clear hq y1 y3
    go_wp2_with fail
    refine (stop_any 72 _).mono ?_
    rintro e wx ⟨⟨bf, rfl, hf⟩, hq⟩
    have HAx := Lib.hid (HAi.out.mv hq)
    have HFx := Lib.hid hf
    clear hf hq gd hA
    go_wp2_with (refine wpList_store_row rfl 113 _ _ rfl N (claimV zeroC (.slice none 0 0)).toArray (by rfl) (by rfl) 113 _ HAx.out.z (infoClm _ _) rfl (claimV_one _ _ _ _) ?_)
    have hz2 := HAx.out.z.row zeroC (.slice none 0 0)
    have hg2 : GX [N] wx (wx.setRow N (claimV zeroC (.slice none 0 0)).toArray) := (GX.refl _ wx).setRow (by simp) _
    have hq2 : Q w (wx.setRow N (claimV zeroC (.slice none 0 0)).toArray) := hg2.toQ HAx.out.q (fun k hk => by have := HAx.out.lo; simp at hk; omega)
    have hf2 : FaultAt (wx.setRow N (claimV zeroC (.slice none 0 0)).toArray) bf 72 0 := fault_gx HFx.out hg2 (by intro e; exact fault_ne HFx.out HAx.out.z (by simpa using e))
    generalize wx.setRow N (claimV zeroC (.slice none 0 0)).toArray = W9 at hz2 hq2 hf2 ⊢
    clear hg2
    have HZ9 := Lib.hid hz2
    have HQ9 := Lib.hid hq2
    have HF9 := Lib.hid hf2
    clear hz2 hq2 hf2 HFx HAx
    go_wp2_with fail
    refine bodyPost_ret (v := .tuple #[.agg (claimV zeroC (.slice none 0 0)).toArray, .iface 101 (.pointer (some ⟨bf, 0, none⟩))]) ?_ rfl (by unfold ReadPost17; rw [HNo.out]; exact ⟨⟨bf, rfl, HF9.out⟩, HQ9.out⟩)
    exact results_cell_row2 rfl _ _ N 113 _ (0, 0) _ _ (by rfl) (by rfl) HZ9.out Tryz.underlying113 rfl (infoClm _ _)
  rw [hA] at ht1
  obtain rfl : TD = [] := List.isEmpty_iff.1 ht1
  have HD8 := Lib.hid hD
  have HAd := Lib.hid hA
  clear hD ht1 hA
  go_wp2_with fail
  refine (HT1.out _).mono ?_
  rintro e vi ⟨rfl, hq⟩
  have HAi := Lib.hid (HAh.out.mv hq)
  have HNi := Lib.hid (HNh.out.q hq)
  have y3 := HAi.out.x.c.2.2.2.1
  simp only at y3
  clear hq y1 HAh HNh gd
  by_cases hD : SG.length = 64
  rotate_left
  ·
    have HNo : Hid (readQ s = none) := Lib.hid (by unfold readQ; rw [if_neg (fun h => by have := h.2.2.2.2.2.2.1; rw [HR.out] at this; exact hD this)])
    have gd : (((SG.length : Int)) != 64) = true := by simp only [bne_iff_ne, ne_eq]; omega
    clear hD
    go_wp2_with fail
    refine (stop_any 72 _).mono ?_
    rintro e wx ⟨⟨bf, rfl, hf⟩, hq⟩
    have HAx := Lib.hid (HAi.out.mv hq)
    have HFx := Lib.hid hf
    clear hf hq y3
    go_wp2_with (refine wpList_store_row rfl 113 _ _ rfl N (claimV zeroC (.slice none 0 0)).toArray (by rfl) (by rfl) 113 _ HAx.out.z (infoClm _ _) rfl (claimV_one _ _ _ _) ?_)
    have hz2 := HAx.out.z.row zeroC (.slice none 0 0)
    have hg2 : GX [N] wx (wx.setRow N (claimV zeroC (.slice none 0 0)).toArray) := (GX.refl _ wx).setRow (by simp) _
    have hq2 : Q w (wx.setRow N (claimV zeroC (.slice none 0 0)).toArray) := hg2.toQ HAx.out.q (fun k hk => by have := HAx.out.lo; simp at hk; omega)
    have hf2 : FaultAt (wx.setRow N (claimV zeroC (.slice none 0 0)).toArray) bf 72 0 := fault_gx HFx.out hg2 (by intro e; exact fault_ne HFx.out HAx.out.z (by simpa using e))
    generalize wx.setRow N (claimV zeroC (.slice none 0 0)).toArray = W9 at hz2 hq2 hf2 ⊢
    clear hg2
    have HZ9 := Lib.hid hz2
    have HQ9 := Lib.hid hq2
    have HF9 := Lib.hid hf2
    clear hz2 hq2 hf2 HFx HAx
    go_wp2_with fail
    refine bodyPost_ret (v := .tuple #[.agg (claimV zeroC (.slice none 0 0)).toArray, .iface 101 (.pointer (some ⟨bf, 0, none⟩))]) ?_ rfl (by unfold ReadPost17; rw [HNo.out]; exact ⟨⟨bf, rfl, HF9.out⟩, HQ9.out⟩)
    exact results_cell_row2 rfl _ _ N 113 _ (0, 0) _ _ (by rfl) (by rfl) HZ9.out Tryz.underlying113 rfl (infoClm _ _)
  have gd : (((SG.length : Int)) != 64) = false := by rw [hD]; rfl
  rcases hA : SG.all chrX with _ | _
  ·
    have HNo : Hid (readQ s = none) := Lib.hid (by unfold readQ; rw [if_neg (fun h => by have := h.2.2.2.2.2.2.2; rw [HR.out] at this; exact Bool.false_ne_true (hA.symm.trans this))])
    rw [hA] at ht2
    have HD64 := Lib.hid hD
    clear hD
    go_wp2_with fail
    refine (HT2.out _).mono ?_
    rintro e vj ⟨rfl, hq⟩
    have HAj := Lib.hid (HAi.out.mv hq)
    clear hq y3
    go_wp2_with fail
    refine (stop_any 72 _).mono ?_
    rintro e wx ⟨⟨bf, rfl, hf⟩, hq⟩
    have HAx := Lib.hid (HAj.out.mv hq)
    have HFx := Lib.hid hf
    clear hf hq gd hA
    go_wp2_with (refine wpList_store_row rfl 113 _ _ rfl N (claimV zeroC (.slice none 0 0)).toArray (by rfl) (by rfl) 113 _ HAx.out.z (infoClm _ _) rfl (claimV_one _ _ _ _) ?_)
    have hz2 := HAx.out.z.row zeroC (.slice none 0 0)
    have hg2 : GX [N] wx (wx.setRow N (claimV zeroC (.slice none 0 0)).toArray) := (GX.refl _ wx).setRow (by simp) _
    have hq2 : Q w (wx.setRow N (claimV zeroC (.slice none 0 0)).toArray) := hg2.toQ HAx.out.q (fun k hk => by have := HAx.out.lo; simp at hk; omega)
    have hf2 : FaultAt (wx.setRow N (claimV zeroC (.slice none 0 0)).toArray) bf 72 0 := fault_gx HFx.out hg2 (by intro e; exact fault_ne HFx.out HAx.out.z (by simpa using e))
    generalize wx.setRow N (claimV zeroC (.slice none 0 0)).toArray = W9 at hz2 hq2 hf2 ⊢
    clear hg2
    have HZ9 := Lib.hid hz2
    have HQ9 := Lib.hid hq2
    have HF9 := Lib.hid hf2
    clear hz2 hq2 hf2 HFx HAx
    go_wp2_with fail
    refine bodyPost_ret (v := .tuple #[.agg (claimV zeroC (.slice none 0 0)).toArray, .iface 101 (.pointer (some ⟨bf, 0, none⟩))]) ?_ rfl (by unfold ReadPost17; rw [HNo.out]; exact ⟨⟨bf, rfl, HF9.out⟩, HQ9.out⟩)
    exact results_cell_row2 rfl _ _ N 113 _ (0, 0) _ _ (by rfl) (by rfl) HZ9.out Tryz.underlying113 rfl (infoClm _ _)
  rw [hA] at ht2
  obtain rfl : TS = [] := List.isEmpty_iff.1 ht2
  have HYes : Hid (readQ s = some ⟨ID, DY, RG, SG, NL⟩) := Lib.hid (by unfold readQ; rw [if_pos ?_, HR.out]; rw [HR.out]; exact ⟨rfl, rfl, rfl, hw, HD8.out, HAd.out, hD, hA⟩)
  clear hD ht2 hA hw
  go_wp2_with fail
  refine (HT2.out _).mono ?_
  rintro e vj ⟨rfl, hq⟩
  have HAj := Lib.hid (HAi.out.mv hq)
  have HNj := Lib.hid (HNi.out.q hq)
  clear hq y3 HAi HNi gd
  obtain ⟨b0, b1, b2, b3, b4⟩ := HAj.out.x.c
  simp only at b0 b1 b2 b3
  go_upto_region 11 with (fail)
  iterate 4 go_step
  refine wpList_store_row rfl 113 _ _ rfl N (claimV ⟨ID, DY, RG, SG, NL⟩ (.slice (some ⟨NB, 0, none⟩) NL.length NL.length)).toArray (by rfl) (by rfl) 113 _ HAj.out.z (infoClm _ _) rfl (claimV_one _ _ _ _) ?_
  have hz2 := HAj.out.z.row ⟨ID, DY, RG, SG, NL⟩ (.slice (some ⟨NB, 0, none⟩) NL.length NL.length)
  have hg2 : GX [N] vj (vj.setRow N (claimV ⟨ID, DY, RG, SG, NL⟩ (.slice (some ⟨NB, 0, none⟩) NL.length NL.length)).toArray) := (GX.refl _ vj).setRow (by simp) _
  have hq2 : Q w (vj.setRow N (claimV ⟨ID, DY, RG, SG, NL⟩ (.slice (some ⟨NB, 0, none⟩) NL.length NL.length)).toArray) := hg2.toQ HAj.out.q (fun k hk => by have := HAj.out.lo; simp at hk; omega)
  have hn2 := HNj.out.gx hg2 (fun g off e => by injection e with e; injection e with e1 e2; simp; omega)
  generalize vj.setRow N (claimV ⟨ID, DY, RG, SG, NL⟩ (.slice (some ⟨NB, 0, none⟩) NL.length NL.length)).toArray = W9 at hz2 hq2 hn2 ⊢
  clear hg2
  have HZ9 := Lib.hid hz2
  have HQ9 := Lib.hid hq2
  have HN9 := Lib.hid hn2
  clear hz2 hq2 hn2 HNj HAj b0 b1 b2 b3 b4
  go_wp2_with fail
  refine bodyPost_ret (v := .tuple #[.agg (claimV ⟨ID, DY, RG, SG, NL⟩ (.slice (some ⟨NB, 0, none⟩) NL.length NL.length)).toArray, .nilIface]) ?_ rfl (by unfold ReadPost17; rw [HYes.out]; exact ⟨⟨_, rfl, HN9.out⟩, HQ9.out⟩)
  exact results_cell_row2 rfl _ _ N 113 _ (0, 0) _ _ (by rfl) (by rfl) HZ9.out Tryz.underlying113 rfl (infoClm _ _)
end Go.Proofs.YtmmoenbmgcplkaaGreatDoor
set_option linter.unusedVariables false
namespace Go.Proofs.YtmmoenbmgcplkaaGreatDoor
open Go Go.RowKit
set_option maxRecDepth 100000 in
set_option maxHeartbeats 4000000 in
theorem Apart_ok (t : Int) (w : World) (h0 : 0 ≤ t) (h1 : t ≤ 253402300799) : Calls Tryz.prog 90 #[.int .i64 t] w fun e w' => e = .returned (.agg (whenV t)) ∧ Q w w' := by
  obtain ⟨n, hn⟩ : ∃ n, n = t / 86400 := ⟨_, rfl⟩
  have hz : zI t = n + 719468 := by rw [hn]; rfl
  have hnb : 0 ≤ n ∧ n ≤ 2932896 := by omega
  obtain ⟨hc, hk⟩ := civ_is (n + 719468) (by omega)
  obtain ⟨hy1, hy2⟩ := civ_year (n + 719468) (by omega) (by omega)
  have hlo := hc.lo
  have hhi := hc.hi
  have hW : whenV t = #[.int .i64 (civY (n + 719468)), .int .i64 (civM (n + 719468)), .int .i64 (civD (n + 719468)), .int .i64 ((n + 4) % 7), .int .i64 (t / 3600 % 24), .int .i64 (t / 60 % 60), .int .i64 (t % 60)] := by unfold whenV; rw [hz, ← hn]
  generalize (civM (n + 719468) - 1).toNat = K at *
  generalize hY : civY (n + 719468) = Y at *
  generalize hM : civM (n + 719468) = M at *
  generalize hD : civD (n + 719468) = D at *
  have HW := Lib.hid hW
  have HC := Lib.hid hc
  have HK := Lib.hid hk
  have HN := Lib.hid hn
  clear hW hc hk hY hM hD hz
  go_enter Tryz.func90, Tryz.ntmps90
  go_upto_region 2 with (fail)
  rw [← HN.out]
  clear hn
  go_upto_region 3 with (fail)
  obtain ⟨w5, hw5, hR5, hW5, hq5⟩ : ∃ w5, w5 = (w.alloc (.cells #[.int .i64 0, .int .i64 0, .int .i64 0, .int .i64 0, .int .i64 0, .int .i64 0, .int .i64 0] 133)).alloc (.cells #[.int .i64 1970, .int .i64 1, .int .i64 0, .int .i64 ((n + 4) % 7), .int .i64 (t / 3600 % 24), .int .i64 (t / 60 % 60), .int .i64 (t % 60)] 133) ∧
      w5.heap[w.heap.size]? = some (.cells #[.int .i64 0, .int .i64 0, .int .i64 0, .int .i64 0, .int .i64 0, .int .i64 0, .int .i64 0] 133 (0, 0)) ∧ WhenAt w5 (w.heap.size + 1) 1970 1 0 ((n + 4) % 7) (t / 3600 % 24) (t / 60 % 60) (t % 60) ∧ Q w w5 :=
    ⟨_, rfl, heap_alloc2_old _ _ _, heap_alloc2_new _ _ _, ((Q.refl w).alloc _).alloc _⟩
  refine Eq.mp (congrArg _ hw5) ?_
  clear hw5
  obtain ⟨g, hg⟩ : ∃ g, g = w.heap.size := ⟨_, rfl⟩
  rw [← hg] at hR5 hW5 ⊢
  have HR := Lib.hid hR5
  have HWh := Lib.hid hW5
  have HQ := Lib.hid hq5
  have HG := Lib.hid hg
  clear hR5 hW5 hq5 hg
  generalize (n + 4) % 7 = wk at *
  generalize t / 3600 % 24 = ho at *
  generalize t / 60 % 60 = mi at *
  generalize t % 60 = se at *
  go_loopw [3] (fun v wr => ∃ y c : Int, 1970 ≤ y ∧ y ≤ Y ∧ v = .int .i64 c ∧ Hid (c = n + 719468 - J y) ∧ 0 ≤ c ∧ c ≤ n ∧ WhenAt wr (g + 1) y 1 0 wk ho mi se ∧ GX [g + 1] w5 wr) (fun v _ => (intOf v).toNat)
  case atStart => exact ⟨1970, n, by omega, hy1, rfl, Lib.hid (by rw [J_1970]; omega), by omega, by omega, HWh.out, GX.refl _ _⟩
  case round =>
    obtain ⟨y, c, hya, hyb, rfl, hc, hc0, hcn, hWA, hG⟩ := hrel
    have c0 : wr.cell? ⟨g + 1, 0, none⟩ = some (.int .i64 y) := hWA.cell 0
    have f0 : wr.frozen? ⟨g + 1, 0, none⟩ = false := hWA.frozen 0
    have hyd := year_bd y
    by_cases hlt : y < Y
    · have hge : yearI y ≤ c := by
        have h2 := J_succ y
        have h3 : J (y + 1) ≤ J Y := by
          rcases Int.lt_or_eq_of_le (show y + 1 ≤ Y from by omega) with e | e
          · have := J_mono _ _ e; omega
          · rw [e]; exact Int.le_refl _
        have := hc.out
        omega
      have hd : decide (yearI y ≤ c) = true := by simpa using hge
      have hs : c - yearI y = n + 719468 - J (y + 1) := by rw [hc.out, J_succ]; omega
      have HS := Lib.hid hs
      have hWs : WhenAt (wr.setCell ⟨g + 1, 0, none⟩ (.int .i64 (y + 1))) (g + 1) (y + 1) 1 0 wk ho mi se := hWA.set 0 _
      have HWS := Lib.hid hWs
      have HGS := Lib.hid (hG.set (g := g + 1) (by simp) 0 (.int .i64 (y + 1)))
      clear hs hWs hWA hG HR HWh
      generalize hL : yearI y = L at *
      have HL := Lib.hid hL
      clear hL
      go_wp2_with (go_at_call 136; refine (days0_any _ _ (by omega) (by omega)).mono ?_; rintro e w' ⟨rfl, rfl⟩; rw [HL.out])
      go_roundw
      case rel => exact ⟨y + 1, c - L, by omega, by omega, rfl, HS, by omega, by omega, HWS.out, HGS.out⟩
      case measure => simp [intOf]; omega
    · obtain rfl : y = Y := by omega
      have hle : c < yearI y := by
        have h2 := J_succ y
        have := hc.out
        omega
      have hd : decide (yearI y ≤ c) = false := by simpa using hle
      have HWA := Lib.hid hWA
      have HGA := Lib.hid hG
      clear hWA hG HWh hle
      generalize hL : yearI y = L at *
      have HL := Lib.hid hL
      clear hL
      go_wp2_with (go_at_call 136; refine (days0_any _ _ (by omega) (by omega)).mono ?_; rintro e w' ⟨rfl, rfl⟩; rw [HL.out])
      clear c0 f0 hd hyd
      obtain ⟨Z, hZ⟩ : ∃ Z, Z = n + 719468 := ⟨_, rfl⟩
      rw [← hZ] at HC hc hlo hhi
      go_loopw [3] (fun v wz => ∃ (k : Nat) (c : Int), k ≤ K ∧ v = .int .i64 c ∧ Hid (c = Z - J y - cumI y k) ∧ 0 ≤ c ∧ c ≤ n ∧ WhenAt wz (g + 1) y ((k : Int) + 1) 0 wk ho mi se ∧ GX [g + 1] w5 wz) (fun v _ => (intOf v).toNat)
      case atStart => exact ⟨0, c, by omega, rfl, Lib.hid (by rw [hc.out]; simp [cumI]), by omega, by omega, HWA.out, HGA.out⟩
      case round =>
        obtain ⟨k, c, hkK, rfl, hc, hc0, hcn, hWA, hG⟩ := hrel
        have c0 : wr.cell? ⟨g + 1, 0, none⟩ = some (.int .i64 y) := hWA.cell 0
        have c1 : wr.cell? ⟨g + 1, 1, none⟩ = some (.int .i64 ((k : Int) + 1)) := hWA.cell 1
        have f1 : wr.frozen? ⟨g + 1, 1, none⟩ = false := hWA.frozen 1
        have hK12 := HC.out.k12
        have hlb := long_bd y ((k : Int) + 1)
        by_cases hlt : k < K
        · have hge : longI y ((k : Int) + 1) ≤ c := by
            have h2 := cum_mono y (k + 1) K (by omega)
            have h3 := HC.out.num
            have h4 := HC.out.dlo
            have h5 : cumI y (k + 1) = cumI y k + longI y ((k : Int) + 1) := rfl
            have := hc.out
            omega
          have hd : decide (longI y ((k : Int) + 1) ≤ c) = true := by simpa using hge
          have hs : c - longI y ((k : Int) + 1) = Z - J y - cumI y (k + 1) := by
            have h5 : cumI y (k + 1) = cumI y k + longI y ((k : Int) + 1) := rfl
            rw [hc.out, h5]; omega
          have HS := Lib.hid hs
          have hWs : WhenAt (wr.setCell ⟨g + 1, 1, none⟩ (.int .i64 ((k : Int) + 1 + 1))) (g + 1) y (((k + 1 : Nat) : Int) + 1) 0 wk ho mi se := hWA.set 1 _
          have HWS := Lib.hid hWs
          have HGS := Lib.hid (hG.set (g := g + 1) (by simp) 1 (.int .i64 ((k : Int) + 1 + 1)))
          clear hs hWs hWA hG HR
          generalize hL : longI y ((k : Int) + 1) = L2 at *
          have HL2 := Lib.hid hL
          clear hL
          go_wp2_with (go_at_call 136; refine (daysM_any _ _ _ (by omega) (by omega) (by omega) (by omega)).mono ?_; rintro e w' ⟨rfl, rfl⟩; rw [HL2.out])
          go_roundw
          case rel => exact ⟨k + 1, c - L2, by omega, rfl, HS, by omega, by omega, HWS.out, HGS.out⟩
          case measure => simp [intOf]; omega
        · obtain rfl : k = K := by omega
          have hDc : D = c + 1 := by have := hc.out; have := HC.out.num; omega
          have hle : c < longI y ((k : Int) + 1) := by have := HC.out.dhi; omega
          have hd : decide (longI y ((k : Int) + 1) ≤ c) = false := by simpa using hle
          have c2 : wr.cell? ⟨g + 1, 2, none⟩ = some (.int .i64 0) := hWA.cell 2
          have f2 : wr.frozen? ⟨g + 1, 2, none⟩ = false := hWA.frozen 2
          have hWs : (wr.setCell ⟨g + 1, 2, none⟩ (.int .i64 (c + 1))).heap[g + 1]? = some (.cells (whenV t) 133 (0, 0)) := by
            rw [hWA.set 2, HW.out, ← HK.out, hDc]; rfl
          have hG2 := hG.set (g := g + 1) (by simp) 2 (.int .i64 (c + 1))
          have hR2 := hG2.heap (k := g) (by simp) HR.out
          have HWS := Lib.hid hWs
          have HR2 := Lib.hid hR2
          have HQ2 := Lib.hid (hG2.toQ HQ.out (by intro x hx; simp at hx; have := HG.out; omega))
          have HDC := Lib.hid hDc
          clear hWs hG2 hR2 hWA hG hle HR hDc
          generalize hL : longI y ((k : Int) + 1) = L2 at *
          have HL2 := Lib.hid hL
          clear hL
          go_upto_region 10 with (go_at_call 136; refine (daysM_any _ _ _ (by omega) (by omega) (by omega) (by omega)).mono ?_; rintro e w' ⟨rfl, rfl⟩; rw [HL2.out])
          generalize wr.setCell ⟨g + 1, 2, none⟩ (.int .i64 (c + 1)) = w8 at *
          clear c0 c1 c2 f1 f2 hd
          have hi7 : (Tryz.prog.info? 133).map (·.size) = some (whenV t).size := infoWhen
          have hall : (whenV t).all (·.oneCell') = true := by unfold whenV; simp [Value.oneCell']
          generalize hV : whenV t = V at *
          have HV := Lib.hid hV
          clear hV
          iterate 1 go_step
          refine wpList_load_row rfl 133 (.tmp 4) rfl (g + 1) (by rfl) _ _ _ _ HWS.out Tryz.underlying133 rfl hi7 ?_
          refine wpList_store_row rfl 133 (.tmp 2) (.tmp 54) rfl g V (by rfl) (by rfl) 133 _ HR2.out hi7 (by have := hi7; rw [infoWhen] at this; simp at this ⊢; omega) hall ?_
          have hr : (w8.setRow g V).heap[g]? = some (.cells V 133 (0, 0)) := by
            simp only [World.setRow, Array.getElem?_modify, if_true]
            rw [HR2.out]; rfl
          have hq := Q.setRow HQ2.out (g := g) (by have := HG.out; omega) V
          generalize w8.setRow g V = w9 at *
          have HR9 := Lib.hid hr
          have HQ9 := Lib.hid hq
          clear hr hq
          go_wp2_with fail
          refine bodyPost_ret (v := .agg V) ?_ rfl ⟨by rw [HV.out], HQ9.out⟩
          exact results_cell_row rfl _ _ g 133 _ (0, 0) _ rfl HR9.out Tryz.underlying133 rfl hi7
end Go.Proofs.YtmmoenbmgcplkaaGreatDoor
set_option linter.unusedVariables false
namespace Go.Proofs.YtmmoenbmgcplkaaGreatDoor
open Go Go.RowKit
theorem digitsI (n c : Int) (w : World) (h0 : 0 ≤ n) (h1 : n ≤ 1000000) (c0 : 0 ≤ c) (c1 : c ≤ 10) : Calls Tryz.prog 91 #[.int .i64 n, .int .i64 c] w fun e w' => e = .returned (.string ⟨(digL n c.toNat).toArray⟩) ∧ w = w' := by
  obtain ⟨k, rfl⟩ : ∃ k : Nat, c = k := ⟨c.toNat, by omega⟩
  rw [Int.toNat_natCast]
  exact digits_any n k w h0 h1 (by omega)
attribute [go_sem] digL_length
def WhenT (w : World) (g : Nat) (t : Int) : Prop := w.heap[g]? = some (.cells (whenV t) 133 (0, 0))
theorem WhenT.q {w w' : World} {g : Nat} {t : Int} (h : WhenT w g t) (hq : Q w w') : WhenT w' g t := hq.block h
theorem whenT_start (w : World) (cs : Array Value) (t : Int) :
    ∃ w3, w3 = (w.alloc (.cells cs 133)).setRow w.heap.size (whenV t) ∧ WhenT w3 w.heap.size t ∧ Q w w3 := by
  refine ⟨_, rfl, ?_, Q.setRow ((Q.refl w).alloc _) (Nat.le_refl _) _⟩
  unfold WhenT
  simp only [World.setRow, Array.getElem?_modify, if_true]
  rw [heap_alloc_new]
  rfl
theorem WhenT.c0 {w : World} {g : Nat} {t : Int} (h : WhenT w g t) : w.cell? ⟨g, 0, none⟩ = some (.int .i64 (civY (zI t))) := by rw [cell_of_row _ _ _ _ _ _ h]; rfl
theorem WhenT.c1 {w : World} {g : Nat} {t : Int} (h : WhenT w g t) : w.cell? ⟨g, 1, none⟩ = some (.int .i64 (civM (zI t))) := by rw [cell_of_row _ _ _ _ _ _ h]; rfl
theorem WhenT.c2 {w : World} {g : Nat} {t : Int} (h : WhenT w g t) : w.cell? ⟨g, 2, none⟩ = some (.int .i64 (civD (zI t))) := by rw [cell_of_row _ _ _ _ _ _ h]; rfl
theorem WhenT.c3 {w : World} {g : Nat} {t : Int} (h : WhenT w g t) : w.cell? ⟨g, 3, none⟩ = some (.int .i64 ((t / 86400 + 4) % 7)) := by rw [cell_of_row _ _ _ _ _ _ h]; rfl
theorem WhenT.c4 {w : World} {g : Nat} {t : Int} (h : WhenT w g t) : w.cell? ⟨g, 4, none⟩ = some (.int .i64 (hoI t)) := by rw [cell_of_row _ _ _ _ _ _ h]; rfl
theorem WhenT.c5 {w : World} {g : Nat} {t : Int} (h : WhenT w g t) : w.cell? ⟨g, 5, none⟩ = some (.int .i64 (miI t)) := by rw [cell_of_row _ _ _ _ _ _ h]; rfl
theorem WhenT.c6 {w : World} {g : Nat} {t : Int} (h : WhenT w g t) : w.cell? ⟨g, 6, none⟩ = some (.int .i64 (seI t)) := by rw [cell_of_row _ _ _ _ _ _ h]; rfl
theorem infoWT (t : Int) : (Tryz.prog.info? 133).map (·.size) = some (whenV t).size := infoWhen
theorem allWT (t : Int) : (whenV t).all (·.oneCell') = true := by unfold whenV; simp [Value.oneCell']
theorem IsR (t : Int) (w : World) : Calls Tryz.prog 48 #[.int .i64 t] w fun e w' => e = .returned (.bool (decide (0 ≤ t) && decide (t ≤ 253402300799))) ∧ w = w' := by
  cases h0 : decide (0 ≤ t)
  · go_enter Tryz.func48, Tryz.ntmps48
    go_wp2_with fail
    go_ret
    exact ⟨rfl, rfl⟩
  · cases h1 : decide (t ≤ 253402300799)
    · go_enter Tryz.func48, Tryz.ntmps48
      go_wp2_with fail
      go_ret
      exact ⟨rfl, rfl⟩
    · go_enter Tryz.func48, Tryz.ntmps48
      go_wp2_with fail
      go_ret
      exact ⟨rfl, rfl⟩
end Go.Proofs.YtmmoenbmgcplkaaGreatDoor
set_option linter.unusedVariables false
namespace Go.Proofs.YtmmoenbmgcplkaaGreatDoor
open Go Go.RowKit
set_option maxHeartbeats 4000000 in
theorem FromR_ok (Y m d : Int) (w : World) (h : vldB Y m d = true) : Calls Tryz.prog 137 #[.int .i64 Y, .int .i64 m, .int .i64 d] w fun e w' => e = .returned (.int .i64 ((dayZ Y m d - 719468) * 86400)) ∧ w = w' := by
  have hv := of_decide_eq_true h
  obtain ⟨v1, v2, v3, v4, v5, v6⟩ := hv
  have hl31 := (long_bd Y m).2
  have t1 : decide (Y < 1970) = false := by simp; omega
  have t2 : decide (9999 < Y) = false := by simp; omega
  have t3 : decide (m < 1) = false := by simp; omega
  have t4 : decide (12 < m) = false := by simp; omega
  have t5 : decide (d < 1) = false := by simp; omega
  have t6 : decide (longI Y m < d) = false := by simp; omega
  obtain ⟨K, hK⟩ : ∃ K : Nat, m = (K : Int) + 1 := ⟨(m - 1).toNat, by omega⟩
  have hz := dayZ_J Y d K (by omega)
  rw [← hK] at hz
  have hJY : 719468 ≤ J Y ∧ J Y ≤ 3652365 := by
    constructor
    · rcases Int.lt_or_eq_of_le v1 with e | e
      · have := J_mono _ _ e; rw [J_1970] at this; omega
      · rw [← e, J_1970]; omega
    · have := J_mono Y 10000 (by omega); rw [J_10000] at this; omega
  have HZ := Lib.hid hz
  have HK := Lib.hid hK
  clear hz h hK
  go_enter Tryz.func137, Tryz.ntmps137
  go_upto_region 4 with (go_at_call 136; refine (daysM_any _ _ _ v1 (by omega) v3 v4).mono ?_; rintro e w' ⟨rfl, rfl⟩)
  clear t1 t2 t3 t4 t5 t6
  go_wp2_with fail
  go_loop [7, 8] (fun n y => ∃ y' c : Int, 1970 ≤ y' ∧ y' ≤ Y ∧ y = .int .i64 y' ∧ n = .int .i64 c ∧ Hid (c = d - 1 + (J y' - 719468)) ∧ 0 ≤ c ∧ c ≤ 4000000) (fun _ y => (Y - intOf y).toNat)
  case atStart => exact ⟨1970, d - 1, by omega, v1, rfl, rfl, Lib.hid (by rw [J_1970]; omega), by omega, by omega⟩
  case round =>
    obtain ⟨y, c, hy1, hy2, rfl, rfl, hc, hc0, hc1⟩ := hrel
    by_cases hlt : y < Y
    · have hd : decide (y < Y) = true := by simpa using hlt
      have hyb := year_bd y
      have hs : c + yearI y = d - 1 + (J (y + 1) - 719468) := by rw [hc.out, J_succ]; omega
      have hb : c + yearI y ≤ 4000000 := by
        rw [hs]
        have h3 : J (y + 1) ≤ J Y := by
          rcases Int.lt_or_eq_of_le (show y + 1 ≤ Y from by omega) with e | e
          · have := J_mono _ _ e; omega
          · rw [e]; exact Int.le_refl _
        omega
      have HS := Lib.hid hs
      clear hs
      generalize hL : yearI y = L at *
      have HL := Lib.hid hL
      clear hL
      go_wp2_with (go_at_call 136; refine (days0_any _ _ (by omega) (by omega)).mono ?_; rintro e w' ⟨rfl, rfl⟩; rw [HL.out])
      go_round
      case rel => exact ⟨y + 1, c + L, by omega, by omega, rfl, rfl, HS, by omega, by omega⟩
      case measure => simp [intOf]; omega
    · obtain rfl : y = Y := by omega
      have hd : decide (y < y) = false := by simp
      have hcc : c = d - 1 + (J y - 719468) := hc.out
      have HCC := Lib.hid hcc
      clear hcc hc
      go_wp2_with fail
      go_loop [7, 9] (fun n mv => ∃ (k : Nat) (c : Int), k ≤ K ∧ mv = .int .i64 ((k : Int) + 1) ∧ n = .int .i64 c ∧ Hid (c = d - 1 + (J y - 719468) + cumI y k) ∧ 0 ≤ c ∧ c ≤ 4000000 + 31 * k) (fun _ mv => (m - intOf mv).toNat)
      case atStart => exact ⟨0, c, by omega, by simp, rfl, Lib.hid (by rw [HCC.out]; simp [cumI]), by omega, by omega⟩
      case round =>
        obtain ⟨k, c2, hk, rfl, rfl, hc, hc0, hc1⟩ := hrel
        have hmK := HK.out
        have hlb := long_bd y ((k : Int) + 1)
        by_cases hlt : k < K
        · have hd2 : decide ((k : Int) + 1 < m) = true := by simp; omega
          have hs : c2 + longI y ((k : Int) + 1) = d - 1 + (J y - 719468) + cumI y (k + 1) := by
            have h5 : cumI y (k + 1) = cumI y k + longI y ((k : Int) + 1) := rfl
            rw [hc.out, h5]; omega
          have HS := Lib.hid hs
          have hk12 : (k : Int) + 1 ≤ 12 := by omega
          have hkm : (k : Int) + 1 < m := by omega
          clear hs hmK
          generalize hL : longI y ((k : Int) + 1) = L at *
          have HL := Lib.hid hL
          clear hL
          go_wp2_with (go_at_call 136; refine (daysM_any _ _ _ (by omega) (by omega) (by omega) (by omega)).mono ?_; rintro e w' ⟨rfl, rfl⟩; rw [HL.out])
          go_round
          case rel => exact ⟨k + 1, c2 + L, by omega, by go_num, rfl, HS, by omega, by omega⟩
          case measure => simp [intOf]; omega
        · obtain rfl : k = K := by omega
          have hd2 : decide ((k : Int) + 1 < m) = false := by simp; omega
          have hk12 : (k : Int) + 1 ≤ 12 := by omega
          clear hmK
          go_wp2_with fail
          go_ret
          exact ⟨ret_int (by rw [HZ.out]; have := hc.out; omega), rfl⟩
set_option maxHeartbeats 2000000 in
theorem FromR_no (Y m d : Int) (w : World) (h : vldB Y m d = false) : Calls Tryz.prog 137 #[.int .i64 Y, .int .i64 m, .int .i64 d] w fun e w' => e = .returned (.int .i64 (-1)) ∧ w = w' := by
  have hv := of_decide_eq_false h
  clear h
  by_cases h1 : Y < 1970
  · have t1 : decide (Y < 1970) = true := by simpa using h1
    clear hv
    go_enter Tryz.func137, Tryz.ntmps137
    go_wp2_with fail
    go_ret
    exact ⟨rfl, rfl⟩
  have t1 : decide (Y < 1970) = false := by simpa using h1
  by_cases h2 : 9999 < Y
  · have t2 : decide (9999 < Y) = true := by simpa using h2
    clear hv
    go_enter Tryz.func137, Tryz.ntmps137
    go_wp2_with fail
    go_ret
    exact ⟨rfl, rfl⟩
  have t2 : decide (9999 < Y) = false := by simpa using h2
  by_cases h3 : m < 1
  · have t3 : decide (m < 1) = true := by simpa using h3
    clear hv
    go_enter Tryz.func137, Tryz.ntmps137
    go_wp2_with fail
    go_ret
    exact ⟨rfl, rfl⟩
  have t3 : decide (m < 1) = false := by simpa using h3
  by_cases h4 : 12 < m
  · have t4 : decide (12 < m) = true := by simpa using h4
    clear hv
    go_enter Tryz.func137, Tryz.ntmps137
    go_wp2_with fail
    go_ret
    exact ⟨rfl, rfl⟩
  have t4 : decide (12 < m) = false := by simpa using h4
  by_cases h5 : d < 1
  · have t5 : decide (d < 1) = true := by simpa using h5
    clear hv
    go_enter Tryz.func137, Tryz.ntmps137
    go_wp2_with fail
    go_ret
    exact ⟨rfl, rfl⟩
  have t5 : decide (d < 1) = false := by simpa using h5
  have h6 : longI Y m < d := by omega
  have t6 : decide (longI Y m < d) = true := by simpa using h6
  clear hv
  have v1 : 1970 ≤ Y := by omega
  have v2 : Y ≤ 9999 := by omega
  have v3 : 1 ≤ m := by omega
  have v4 : m ≤ 12 := by omega
  go_enter Tryz.func137, Tryz.ntmps137
  go_wp2_with (go_at_call 136; refine (daysM_any _ _ _ v1 (by omega) v3 v4).mono ?_; rintro e w' ⟨rfl, rfl⟩)
  go_ret
  exact ⟨rfl, rfl⟩
end Go.Proofs.YtmmoenbmgcplkaaGreatDoor
