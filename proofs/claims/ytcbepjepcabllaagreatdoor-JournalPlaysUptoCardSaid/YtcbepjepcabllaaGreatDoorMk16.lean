/- Texts of this proof, laid into one: JsP, JsQ, JsR, Open, OpenU. -/
import Derived.Test.YtcbepjepcabllaaGreatDoorMk15
import Derived.SliceStrings
import Derived.Test.YtcbepjepcabllaaGreatDoorRows
/- A step of the play: records are appended, laid anew. -/
set_option linter.unusedVariables false
set_option linter.unusedSimpArgs false
namespace Go.Proofs.YtcbepjepcabllaaGreatDoor
open Go Go.RowKit
set_option maxHeartbeats 1000000 in
theorem pick_big (c n : Int) (w : World) (hn : 1 ≤ n ∧ n ≤ 100000) (hc : -9223372036854775808 ≤ c ∧ c ≤ 9223372036854775807) :
    Calls Tryz.prog 6 #[.int .i64 c, .int .i64 n] w fun e w' => e = .returned (.int .i64 (pickZ c n)) ∧ w = w' := by
  unfold pickZ
  by_cases h : c < 0
  · have g1 : decide (c < 0) = true := decide_eq_true h
    have b1 : 0 ≤ -(c + 1) % n := Int.emod_nonneg _ (by omega)
    have b2 : -(c + 1) % n < n := Int.emod_lt_of_pos _ (by omega)
    have e1 : Int.tmod (-(c + 1)) n = -(c + 1) % n := Int.tmod_eq_emod_of_nonneg (by omega)
    rw [if_pos h]
    have g2 : (n == 0) = false := by simp; omega
    go_enter Tryz.func6, Tryz.ntmps6
    go_wp2_with fail
    go_ret
    exact ⟨ret_int (by first | rfl | omega | (simp [e1])), rfl⟩
  · have g1 : decide (c < 0) = false := decide_eq_false h
    have b1 : 0 ≤ c % n := Int.emod_nonneg _ (by omega)
    have b2 : c % n < n := Int.emod_lt_of_pos _ (by omega)
    have e1 : Int.tmod c n = c % n := Int.tmod_eq_emod_of_nonneg (by omega)
    rw [if_neg h]
    have g2 : (n == 0) = false := by simp; omega
    go_enter Tryz.func6, Tryz.ntmps6
    go_wp2_with fail
    go_ret
    exact ⟨ret_int (by first | rfl | omega | (simp [e1])), rfl⟩
section
variable {w0 w : World} {bw bp bd gh bj br f half : Nat} {wa wo v : Value} {s : PlS} {m : List UInt8}
set_option maxRecDepth 100000 in
set_option maxHeartbeats 8000000 in
theorem step_append (h : PWv w0 w bw bp bd gh bj br f half wa wo v s) (ok : PlOk f half m s) (n : Int) (t : List UInt8) (A1 A2 : Option Addr) (n1 c1 n2 c2 : Nat) (torn : Int) (het : ErrT w0) (htl : t.length ≤ 140737488355328) :
    Calls Tryz.prog 12 #[.pointer (some ⟨bw, 0, none⟩), .agg (stepC 1 n t (.slice A1 n1 c1) (.slice A2 n2 c2) torn)] w fun e w' => e = .returned (.bool true) ∧ StP w0 w' bw bp bd gh f half m := by
  have hq1 : Q w (w.alloc (.cells (stepC 1 n t (.slice A1 n1 c1) (.slice A2 n2 c2) torn) 48)) := (Q.refl w).alloc _
  have hb : SBox (w.alloc (.cells (stepC 1 n t (.slice A1 n1 c1) (.slice A2 n2 c2) torn) 48)) w.heap.size 1 n t (.slice A1 n1 c1) (.slice A2 n2 c2) torn := (MapKept.heap_alloc w _).1
  have H := Lib.hid h
  have OK := Lib.hid ok
  have hrl := ok.len
  have HET := Lib.hid het
  have HTL := Lib.hid htl
  clear het htl
  clear h ok
  go_enter Tryz.func12, Tryz.ntmps12
  obtain ⟨G, hG⟩ : ∃ G, w.heap.size = G := ⟨_, rfl⟩
  go_upto_region 1 with (fail)
  obtain ⟨W1, hW1⟩ : ∃ W, w.alloc (.cells (stepC 1 n t (.slice A1 n1 c1) (.slice A2 n2 c2) torn) 48) = W := ⟨_, rfl⟩
  rw [hW1] at hq1 hb ⊢
  rw [hG] at hb
  have hl2 : s.recs.length ≤ 2000000 := by omega
  have HC := Lib.hid (RCopy_any (H.out.up hq1).r (H.out.up hq1).rs hl2)
  have c3 := (H.out.up hq1).ww.c3
  have HB := Lib.hid hb
  have HQ1 := Lib.hid hq1
  clear hq1 hb hW1 hG hl2 hrl
  go_wp2_with fail
  refine HC.out.mono ?_
  rintro e w2 ⟨bn, vn, rfl, hrn, hon, hbn, hq2⟩
  have HB2 := Lib.hid (HB.out.q hq2)
  have HP2 := Lib.hid ((H.out.up HQ1.out).up hq2)
  have k0 := HB2.out.c0
  have HRN := Lib.hid hrn
  have HON := Lib.hid hon
  have HQ2 := Lib.hid hq2
  have HBN := Lib.hid hbn
  have HP1 := Lib.hid (H.out.up HQ1.out)
  have hpl := OK.out.place
  have HHF : Hid (half - 1 ≤ 100000) := Lib.hid (by omega)
  have HWF : Hid (wantS s.recs ≤ half - 1) := Lib.hid (by have := OK.out.fits; omega)
  clear hrn hon hbn hq2 HC c3 HB H hpl
  have k2 := HB2.out.c2
  have HAP := Lib.hid (RAppend_any t (HRN.out.q (Q.refl _)) (HON.out.q (Q.refl _)) HWF.out HHF.out OK.out.small HTL.out HBN.out (HQ2.out.trans (Q.refl _)))
  obtain ⟨C, hC⟩ : ∃ C, appE (half - 1) s.recs t = C := ⟨_, rfl⟩
  rw [hC] at HAP
  have HCC := Lib.hid hC
  clear hC
  go_wp2_with fail
  refine HAP.out.mono ?_
  rintro e w3 ⟨rfl, ⟨vn2, hrn3, hon3⟩, _, hq3⟩
  have HP3 := Lib.hid (HP1.out.up hq3)
  have hbn0 : w0.heap.size ≤ bn := Nat.le_trans HP1.out.q.size HBN.out
  have HAD := Lib.hid (app_did HP3.out OK.out HET.out t HTL.out hbn0 hrn3 (OwnS.toS hon3))
  rw [HCC.out] at HAD
  have d2 := HP3.out.ww.c2
  clear hrn3 hon3 hq3 hbn0 HAP
  go_wp2_with fail
  refine HAD.out.mono ?_
  rintro e w4 ⟨x, rfl, hk4, hdid⟩
  have HDD := Lib.hid hdid
  clear hdid hk4 HAD d2
  go_wp2_with fail
  refine HDD.out.mono ?_
  rintro e w5 ⟨rfl, hst⟩
  have HST := Lib.hid hst.1
  clear hst HDD
  go_wp2_with fail
  go_ret
  exact ⟨rfl, HST.out⟩
set_option maxRecDepth 100000 in
set_option maxHeartbeats 8000000 in
theorem step_big (h : PWv w0 w bw bp bd gh bj br f half wa wo v s) (ok : PlOk f half m s) (n : Int) (t : List UInt8) (A1 A2 : Option Addr) (n1 c1 n2 c2 : Nat) (torn : Int) (het : ErrT w0) (hn : -9223372036854775808 ≤ n ∧ n ≤ 9223372036854775807) :
    Calls Tryz.prog 12 #[.pointer (some ⟨bw, 0, none⟩), .agg (stepC 7 n t (.slice A1 n1 c1) (.slice A2 n2 c2) torn)] w fun e w' => e = .returned (.bool true) ∧ StP w0 w' bw bp bd gh f half m := by
  have hq1 : Q w (w.alloc (.cells (stepC 7 n t (.slice A1 n1 c1) (.slice A2 n2 c2) torn) 48)) := (Q.refl w).alloc _
  have hb : SBox (w.alloc (.cells (stepC 7 n t (.slice A1 n1 c1) (.slice A2 n2 c2) torn) 48)) w.heap.size 7 n t (.slice A1 n1 c1) (.slice A2 n2 c2) torn := (MapKept.heap_alloc w _).1
  have H := Lib.hid h
  have OK := Lib.hid ok
  have hrl := ok.len
  have HET := Lib.hid het
  have HPN := Lib.hid hn
  clear het hn
  clear h ok
  go_enter Tryz.func12, Tryz.ntmps12
  obtain ⟨G, hG⟩ : ∃ G, w.heap.size = G := ⟨_, rfl⟩
  go_upto_region 1 with (fail)
  obtain ⟨W1, hW1⟩ : ∃ W, w.alloc (.cells (stepC 7 n t (.slice A1 n1 c1) (.slice A2 n2 c2) torn) 48) = W := ⟨_, rfl⟩
  rw [hW1] at hq1 hb ⊢
  rw [hG] at hb
  have hl2 : s.recs.length ≤ 2000000 := by omega
  have HC := Lib.hid (RCopy_any (H.out.up hq1).r (H.out.up hq1).rs hl2)
  have c3 := (H.out.up hq1).ww.c3
  have HB := Lib.hid hb
  have HQ1 := Lib.hid hq1
  clear hq1 hb hW1 hG hl2 hrl
  go_wp2_with fail
  refine HC.out.mono ?_
  rintro e w2 ⟨bn, vn, rfl, hrn, hon, hbn, hq2⟩
  have HB2 := Lib.hid (HB.out.q hq2)
  have HP2 := Lib.hid ((H.out.up HQ1.out).up hq2)
  have k0 := HB2.out.c0
  have HRN := Lib.hid hrn
  have HON := Lib.hid hon
  have HQ2 := Lib.hid hq2
  have HBN := Lib.hid hbn
  have HP1 := Lib.hid (H.out.up HQ1.out)
  have hpl := OK.out.place
  have HHF : Hid (half - 1 ≤ 100000) := Lib.hid (by omega)
  have HWF : Hid (wantS s.recs ≤ half - 1) := Lib.hid (by have := OK.out.fits; omega)
  clear hrn hon hbn hq2 HC c3 HB H hpl
  have k1 := HB2.out.c1
  have k2 := HB2.out.c2
  have hpz := pickZ_lt n 3000 (by decide)
  have HPK := Lib.hid (pick_big n 3000 w2 (by omega) HPN.out)
  obtain ⟨P, hP⟩ : ∃ P : Nat, pickZ n 3000 = (P : Int) := ⟨(pickZ n 3000).toNat, by omega⟩
  rw [hP] at HPK hpz
  have HTX := Lib.hid (text_any P w2 (by omega))
  have HTL : Hid ((zL P).length ≤ 140737488355328) := Lib.hid (by rw [show (zL P).length = P by simp [zL]]; omega)
  clear hP hpz
  go_wp2_with fail
  refine HPK.out.mono ?_
  rintro e w2b ⟨rfl, rfl⟩
  go_wp2_with fail
  refine HTX.out.mono ?_
  rintro e w2c ⟨rfl, hqc⟩
  have HQC := Lib.hid hqc
  clear hqc HTX HPK k0 k1 k2
  obtain ⟨Z, hZ⟩ : ∃ Z, zL P = Z := ⟨_, rfl⟩
  rw [hZ] at HTL ⊢
  clear hZ
  have HAP := Lib.hid (RAppend_any Z (HRN.out.q HQC.out) (HON.out.q HQC.out) HWF.out HHF.out OK.out.small HTL.out HBN.out (HQ2.out.trans HQC.out))
  obtain ⟨C, hC⟩ : ∃ C, appE (half - 1) s.recs Z = C := ⟨_, rfl⟩
  rw [hC] at HAP
  have HCC := Lib.hid hC
  clear hC
  go_wp2_with fail
  refine HAP.out.mono ?_
  rintro e w3 ⟨rfl, ⟨vn2, hrn3, hon3⟩, _, hq3⟩
  have HP3 := Lib.hid (HP1.out.up hq3)
  have hbn0 : w0.heap.size ≤ bn := Nat.le_trans HP1.out.q.size HBN.out
  have HAD := Lib.hid (app_did HP3.out OK.out HET.out Z HTL.out hbn0 hrn3 (OwnS.toS hon3))
  rw [HCC.out] at HAD
  have d2 := HP3.out.ww.c2
  clear hrn3 hon3 hq3 hbn0 HAP
  go_wp2_with fail
  refine HAD.out.mono ?_
  rintro e w4 ⟨x, rfl, hk4, hdid⟩
  have HDD := Lib.hid hdid
  clear hdid hk4 HAD d2
  go_wp2_with fail
  refine HDD.out.mono ?_
  rintro e w5 ⟨rfl, hst⟩
  have HST := Lib.hid hst.1
  clear hst HDD
  go_wp2_with fail
  go_ret
  exact ⟨rfl, HST.out⟩
set_option maxRecDepth 100000 in
set_option maxHeartbeats 8000000 in
theorem step_reset (h : PWv w0 w bw bp bd gh bj br f half wa wo v s) (ok : PlOk f half m s) (n : Int) (t : List UInt8) (A1 A2 : Option Addr) (n1 c1 n2 c2 : Nat) (torn : Int) (het : ErrT w0) {ts : List (List UInt8)} (hts : StrsAt w0 A1 n1 ts) (htl : ∀ p ∈ ts, p.length ≤ 140737488355328) (htn : ts.length ≤ 4000000000) :
    Calls Tryz.prog 12 #[.pointer (some ⟨bw, 0, none⟩), .agg (stepC 2 n t (.slice A1 n1 c1) (.slice A2 n2 c2) torn)] w fun e w' => e = .returned (.bool true) ∧ StP w0 w' bw bp bd gh f half m := by
  have hq1 : Q w (w.alloc (.cells (stepC 2 n t (.slice A1 n1 c1) (.slice A2 n2 c2) torn) 48)) := (Q.refl w).alloc _
  have hb : SBox (w.alloc (.cells (stepC 2 n t (.slice A1 n1 c1) (.slice A2 n2 c2) torn) 48)) w.heap.size 2 n t (.slice A1 n1 c1) (.slice A2 n2 c2) torn := (MapKept.heap_alloc w _).1
  have H := Lib.hid h
  have OK := Lib.hid ok
  have hrl := ok.len
  have HET := Lib.hid het
  have HTS := Lib.hid hts
  have HTL := Lib.hid htl
  have HTN := Lib.hid htn
  clear het hts htl htn
  clear h ok
  go_enter Tryz.func12, Tryz.ntmps12
  obtain ⟨G, hG⟩ : ∃ G, w.heap.size = G := ⟨_, rfl⟩
  go_upto_region 1 with (fail)
  obtain ⟨W1, hW1⟩ : ∃ W, w.alloc (.cells (stepC 2 n t (.slice A1 n1 c1) (.slice A2 n2 c2) torn) 48) = W := ⟨_, rfl⟩
  rw [hW1] at hq1 hb ⊢
  rw [hG] at hb
  have hl2 : s.recs.length ≤ 2000000 := by omega
  have HC := Lib.hid (RCopy_any (H.out.up hq1).r (H.out.up hq1).rs hl2)
  have c3 := (H.out.up hq1).ww.c3
  have HB := Lib.hid hb
  have HQ1 := Lib.hid hq1
  clear hq1 hb hW1 hG hl2 hrl
  go_wp2_with fail
  refine HC.out.mono ?_
  rintro e w2 ⟨bn, vn, rfl, hrn, hon, hbn, hq2⟩
  have HB2 := Lib.hid (HB.out.q hq2)
  have HP2 := Lib.hid ((H.out.up HQ1.out).up hq2)
  have k0 := HB2.out.c0
  have HRN := Lib.hid hrn
  have HON := Lib.hid hon
  have HQ2 := Lib.hid hq2
  have HBN := Lib.hid hbn
  have HP1 := Lib.hid (H.out.up HQ1.out)
  have hpl := OK.out.place
  have HHF : Hid (half - 1 ≤ 100000) := Lib.hid (by omega)
  have HWF : Hid (wantS s.recs ≤ half - 1) := Lib.hid (by have := OK.out.fits; omega)
  have HB1 := Lib.hid HB.out
  clear hrn hon hbn hq2 HC c3 HB H hpl
  have k3 := HB2.out.c3
  have hst3 := HTS.out.q HP2.out.q
  have hn1 : n1 = ts.length := HTS.out.1
  have hres := RReset_any A1 n1 c1 ts HRN.out hst3 (Nat.le_trans HTN.out (by decide)) HTL.out HHF.out OK.out.ep.2 HBN.out HQ2.out
  have HRS := Lib.hid hres
  have HS3 := Lib.hid hst3
  have HN1 := Lib.hid hn1
  have HN1b : Hid (n1 ≤ 4000000000) := Lib.hid (by rw [hn1]; exact HTN.out)
  clear hn1 hst3 hres
  obtain ⟨C, hC⟩ : ∃ C, resE (half - 1) s.ep ts = C := ⟨_, rfl⟩
  rw [hC] at HRS
  have HCC := Lib.hid hC
  clear hC
  go_wp2_with fail
  refine HRS.out.mono ?_
  rintro e w3 ⟨rfl, hor, _, hq3⟩
  have HP3 := Lib.hid (HP1.out.up hq3)
  have HB3 := Lib.hid (HB1.out.q hq3)
  have hbn0 : w0.heap.size ≤ bn := Nat.le_trans HP1.out.q.size HBN.out
  have HRD : Hid (∀ W, Q w3 W → ∀ vt, StrS W vt ts → Calls Tryz.prog 22 #[.pointer (some ⟨bj, 0, none⟩), vt] W fun e w' => ∃ x, e = .returned x ∧ K w0 [bj] W w' ∧ Calls Tryz.prog 37 #[.pointer (some ⟨bw, 0, none⟩), x, .int .i64 C, .pointer (some ⟨bn, 0, none⟩)] w' fun e w'' => e = .returned (.bool true) ∧ DidP w0 w' w'' bw bp bd gh bj f half m) := Lib.hid (fun W hq vt ht => by
    rw [← HCC.out]
    refine res_did (HP3.out.up hq) OK.out HET.out ts vt ht HTL.out HTN.out hbn0 (fun h0 => ?_)
    rw [HCC.out] at h0
    rcases hor with ⟨h1, _⟩ | ⟨_, v', hr, ho⟩
    · exact absurd h0 h1
    · exact ⟨v', hr.q hq, (OwnS.toS ho).q hq⟩)
  have HTA : Hid (StrsAt w3 A1 n1 ts) := Lib.hid (HTS.out.q HP3.out.q)
  clear hor hq3 hbn0 HRS k0 k3
  go_upto_region 12 with (fail)
  obtain ⟨S, hS⟩ : ∃ S : World → Prop, S = (fun W => W.cell? ⟨bw, 2, none⟩ = some (.pointer (some ⟨bj, 0, none⟩)) ∧ W.cell? ⟨G, 3, none⟩ = some (.slice A1 n1 c1)) := ⟨_, rfl⟩
  have hSq : ∀ W, Q w3 W → S W := fun W hq => by rw [hS]; exact ⟨(HP3.out.up hq).ww.c2, (HB3.out.q hq).c3⟩
  have HSQ := Lib.hid hSq
  have hSi : ∀ W, S W → W.cell? ⟨bw, 2, none⟩ = some (.pointer (some ⟨bj, 0, none⟩)) ∧ W.cell? ⟨G, 3, none⟩ = some (.slice A1 n1 c1) := fun W h => by rw [hS] at h; exact h
  have r2 : ∀ m : SWA S, m.val.cell? ⟨bw, 2, none⟩ = some (.pointer (some ⟨bj, 0, none⟩)) := fun m => (hSi _ m.property).1
  have r3 : ∀ m : SWA S, m.val.cell? ⟨G, 3, none⟩ = some (.slice A1 n1 c1) := fun m => (hSi _ m.property).2
  have HSS := Lib.hid hS
  have hS0 : S w3.drew := hSq _ (Q.refl w3).drew
  haveI : Nonempty (SWA S) := ⟨⟨_, hS0⟩⟩
  clear hS hSq hSi
  refine wp_region_noPanic ?_
  refine wp_plan_A S hS0 [([0, 1, 2, 3, 4, 5, 6, 9, 10], [7]), ([], [8, 11]), ([12], [])] (by kernel_rfl) (by kernel_rfl) (fun _ _ _ _ _ h => h) ?_
  simp only [wpPlan, wpListK, List.map_cons, List.map_nil, Array.getD_eq_getD_getElem?, List.getElem?_toArray, List.getElem?_cons_succ, List.getElem?_cons_zero, Option.getD_some]
  (repeat (go_big_quiet_step (fail)))
  refine wpQuiet_nil ?_
  clear r2 r3
  obtain ⟨Wd, hWd⟩ : ∃ W, w3.drew = W := ⟨_, rfl⟩
  have hqd : Q w3 Wd := by rw [← hWd]; exact (Q.refl w3).drew
  rw [hWd]
  clear hWd hS0
  intro K hK
  refine wpList_append_strs rfl (.const (.slice none 0 0)) (.tmp 57) rfl w3 Wd (.slice none 0 0) [] ts A1 n1 c1 HN1.out.symm (by rfl) (OwnS.nil _ _ _) (by rfl) (HTA.out.q hqd) hqd.size (by have := HN1b.out; simp; omega) ?_
  intro v5 w5 ho5 hg5
  rw [List.nil_append] at ho5
  have hq5 : Q w3 w5 := gb_q_own hg5 hqd (fun k hk => by cases hk)
  have HQ5 := Lib.hid hq5
  have HR5 := Lib.hid (HRD.out w5 hq5 v5 (OwnS.toS ho5))
  obtain ⟨A5, c5, rfl, _⟩ := OwnS.toS ho5
  have hP5 := HP3.out.up hq5
  have hB5 := HB3.out.q hq5
  have e5 := elemT_of hP5.j.j
  have e1 : bw ∉ [bj] := fun c => by
    have c := List.mem_singleton.1 c
    subst c; rw [elemT_of hP5.ww] at e5; revert e5; decide
  have e2 : G ∉ [bj] := fun c => by
    have c := List.mem_singleton.1 c
    subst c; rw [elemT_of hB5] at e5; revert e5; decide
  have hG5 : G ≠ bw := fun c => by
    subst c; have e := elemT_of hB5; rw [elemT_of hP5.ww] at e; revert e; decide
  have HS6 : Hid (∀ w6, Go.Proofs.YtcbepjepcabllaaGreatDoor.K w0 [bj] w5 w6 → S w6 ∧ ∀ w7, w7.cell? ⟨bw, 2, none⟩ = some (.pointer (some ⟨bj, 0, none⟩)) → w6.grownBy w7 (some bw) → S w7) := Lib.hid (fun w6 hk => by
    have h6 := hB5.kk hk e2
    rw [HSS.out]
    refine ⟨⟨(hP5.ww.k hk e1).c2, h6.c3⟩, fun w7 h7 hg => ⟨h7, ?_⟩⟩
    rw [cell_heap (hg.block G (lt_of_heap h6) (fun e => by injection e with e; exact hG5 e))]
    exact h6.c3)
  clear ho5 hg5 hqd hq5 hP5 hB5 e5 e1 e2 hG5 HRD HP3 HB3 HTA
  obtain ⟨N5, hN5⟩ : ∃ n, ts.length = n := ⟨_, rfl⟩
  rw [hN5] at HR5 ⊢
  clear hN5
  refine wpList_nil ?_
  refine hK.out _ _ ⟨⟨_, HSQ.out _ HQ5.out⟩, rfl⟩ ?_
  clear hK K
  (repeat (go_big_quiet_step (fail)))
  refine wpQuiet_nil ?_
  intro K hK
  go_wp2_with fail
  refine HR5.out.mono ?_
  rintro e w6 ⟨x, rfl, hk6, hdid⟩
  have HDD := Lib.hid hdid
  obtain ⟨hS6, hS7⟩ := HS6.out w6 hk6
  have HS7 := Lib.hid hS7
  have HSW6 := Lib.hid hS6
  clear hdid hk6 hS6 hS7 HS6 HR5
  go_wp2_with fail
  refine hK.out _ _ ⟨⟨_, HSW6.out⟩, rfl⟩ ?_
  clear hK K
  intro K hK
  go_wp2_with fail
  refine HDD.out.mono ?_
  rintro e w7 ⟨rfl, hst, hc2, hgb⟩
  have HSW7 := Lib.hid (HS7.out w7 hc2 hgb)
  have HST := Lib.hid hst
  clear hst hc2 hgb HDD
  go_wp2_with fail
  refine hK.out _ _ ⟨⟨_, HSW7.out⟩, rfl⟩ ?_
  clear hK K
  (repeat (go_big_quiet_step (fail)))
  refine wpQuiet_nil ?_
  refine NoPanic.normal ?_
  go_wp2_with fail
  go_ret
  exact ⟨rfl, HST.out⟩
end
end Go.Proofs.YtcbepjepcabllaaGreatDoor
/- Any step of the play; steps in memory; the play's beginning, plain; marks on a live disk. -/
set_option linter.unusedVariables false
set_option linter.unusedSimpArgs false
namespace Go.Proofs.YtcbepjepcabllaaGreatDoor
open Go Go.RowKit
/-- A step that came in. -/
structure StepD where
  k : Int
  n : Int
  t : List UInt8
  A1 : Option Addr
  c1 : Nat
  ts : List (List UInt8)
  A2 : Option Addr
  c2 : Nat
  ks : List Bool
  torn : Int
instance : Inhabited StepD := ⟨⟨0, 0, [], none, 0, [], none, 0, [], 0⟩⟩
def stepL (o : StepD) : List Value := [.int .i64 o.k, .int .i64 o.n, .string ⟨o.t.toArray⟩, .slice o.A1 o.ts.length o.c1, .slice o.A2 o.ks.length o.c2, .int .i64 o.torn]
/-- What is asked of it. -/
structure OkS (w : World) (o : StepD) : Prop where
  n : -9223372036854775808 ≤ o.n ∧ o.n ≤ 9223372036854775807
  t : o.t.length ≤ 140737488355328
  ts : StrsAt w o.A1 o.ts.length o.ts
  tl : ∀ p ∈ o.ts, p.length ≤ 140737488355328
  tn : o.ts.length ≤ 4000000000
  ks : BoolsAt w o.A2 o.ks.length o.ks
theorem OkS.q {w w' : World} {o : StepD} (h : OkS w o) (hq : Q w w') : OkS w' o := ⟨h.n, h.t, h.ts.q hq, h.tl, h.tn, h.ks.q hq⟩
/-- The slice holds these steps. -/
def StepsAt (w : World) (A : Option Addr) (n : Nat) (os : List StepD) : Prop :=
  n = os.length ∧ (0 < n → ∃ g off, A = some ⟨g, off, none⟩ ∧ g < w.heap.size ∧ ∀ j (h : j < os.length), ∀ i v, (stepL os[j])[i]? = some v → w.cell? ⟨g, off + j * 6 + i, none⟩ = some v) ∧ ∀ o ∈ os, OkS w o
theorem StepsAt.q {w w' : World} {A : Option Addr} {n : Nat} {os : List StepD} (h : StepsAt w A n os) (hq : Q w w') : StepsAt w' A n os :=
  ⟨h.1, fun h0 => let ⟨g, off, e, hg, hc⟩ := h.2.1 h0; ⟨g, off, e, Nat.lt_of_lt_of_le hg hq.size, fun j hj i v hv => hq.cell (hc j hj i v hv)⟩, fun o ho => (h.2.2 o ho).q hq⟩
theorem StepsAt.at {w : World} {A : Option Addr} {n : Nat} {os : List StepD} (h : StepsAt w A n os) {j : Nat} (hj : j < n) : ∃ g off o, A = some ⟨g, off, none⟩ ∧ OkS w o ∧
    w.cell? ⟨g, off + j * 6, none⟩ = some (.int .i64 o.k) ∧ w.cell? ⟨g, off + j * 6 + 1, none⟩ = some (.int .i64 o.n) ∧ w.cell? ⟨g, off + j * 6 + 2, none⟩ = some (.string ⟨o.t.toArray⟩) ∧
    w.cell? ⟨g, off + j * 6 + 3, none⟩ = some (.slice o.A1 o.ts.length o.c1) ∧ w.cell? ⟨g, off + j * 6 + 4, none⟩ = some (.slice o.A2 o.ks.length o.c2) ∧ w.cell? ⟨g, off + j * 6 + 5, none⟩ = some (.int .i64 o.torn) := by
  obtain ⟨g, off, e, hg, hc⟩ := h.2.1 (by omega)
  have hj' : j < os.length := by rw [← h.1]; exact hj
  have := hc j hj'
  exact ⟨g, off, os[j], e, h.2.2 _ (List.getElem_mem hj'), this 0 _ rfl, this 1 _ rfl, this 2 _ rfl, this 3 _ rfl, this 4 _ rfl, this 5 _ rfl⟩
section
variable {w0 w : World} {bw bp bd gh bj br f half : Nat} {wa wo v : Value} {s : PlS} {m : List UInt8}
theorem step_any (h : PWv w0 w bw bp bd gh bj br f half wa wo v s) (ok : PlOk f half m s) (het : ErrT w0) (o : StepD) (ho : OkS w0 o) :
    Calls Tryz.prog 12 #[.pointer (some ⟨bw, 0, none⟩), .agg (stepL o).toArray] w fun e w' => e = .returned (.bool true) ∧ StP w0 w' bw bp bd gh f half m := by
  have e : (stepL o).toArray = stepC o.k o.n o.t (.slice o.A1 o.ts.length o.c1) (.slice o.A2 o.ks.length o.c2) o.torn := rfl
  rw [e]
  obtain ⟨h1, h2, h3, h4, h5, h6⟩ := ho
  obtain ⟨k, n, t, A1, c1, ts, A2, c2, ks, torn⟩ := o
  dsimp only at h1 h2 h3 h4 h5 h6 ⊢
  by_cases k1 : k = 1
  · subst k1; exact step_append h ok n t A1 A2 _ c1 _ c2 torn het h2
  by_cases k2 : k = 2
  · subst k2; exact step_reset h ok n t A1 A2 _ c1 _ c2 torn het h3 h4 h5
  by_cases k3 : k = 3
  · subst k3; exact step_open h ok n t A1 A2 _ c1 _ c2 torn het
  by_cases k4 : k = 4
  · subst k4; exact step_fuse h ok n t A1 A2 _ c1 _ c2 torn h1
  by_cases k5 : k = 5
  · subst k5; exact step_lose h ok n t A1 A2 _ c1 _ c2 torn h6
  by_cases k6 : k = 6
  · subst k6; exact step_rot h ok n t A1 A2 _ c1 _ c2 torn h1
  by_cases k7 : k = 7
  · subst k7; exact step_big h ok n t A1 A2 _ c1 _ c2 torn het h1
  exact step_other h ok k n t A1 A2 _ c1 _ c2 torn (by omega)
end
/-- The play begins: behind Format. -/
theorem PlOk.begin {f half : Nat} {M : List UInt8} {d d' : DskS} {j : JrnS} (hpl : f + 2 * half ≤ 64) (hh : 2 ≤ half) (hn : d.n = 64) (hM : ∀ i, i < 64 → readL d i = M) (hi : JInv j d' []) (hf : j.first = f) (hjh : j.half = half) (he : j.epoch = 1) (ho : OutJ f half d d') :
    PlOk f half M ⟨j, d', 1, [], false, false, [], []⟩ := by
  have hn' : d'.n = 64 := ho.n.trans hn
  have hl := hi.live
  refine ⟨⟨hl.ok, fun i h1 h2 => ?_, fun p hp => ?_⟩, hn', hl.dead, ?_, hpl, hh, hf, hjh, hi.ok, ⟨Nat.le_refl 1, (by decide : 1 ≤ 4611686018427387904)⟩, (by show 1 + wantS [] ≤ half; unfold wantS; simp; omega), (fun p hp => by cases hp), ⟨Nat.zero_le _, Nat.zero_le _⟩, hi.closed, hl.gone, fun _ => ⟨hi.wait, he.symm, hi.many, hi.next⟩, fun _ _ => ⟨?_, rfl, rfl⟩, (fun h => by cases h)⟩
  · show sub d'.has (i * 64) (i * 64 + 64) = M
    rw [← readL_none hi.wait, ho.out i h1 (by rw [hn]; have h2 : i < d'.n := h2; omega), hM i (by have h2 : i < d'.n := h2; omega)]
  · have hp : p ∈ d'.wait := hp
    rw [hi.wait] at hp; cases hp
  · show d'.wait.length ≤ 100000
    rw [hi.wait]; exact Nat.zero_le _
  · have hlv : Live (lvD d') := ⟨rfl, hl.dead, by show (-1 : Int) < 0; decide, lvD_ok hl.ok⟩
    exact hi.same hlv hi.wait rfl (fun q _ => rfl)
/-- So many sectors of a live disk hold the mark. -/
def MarkAt (w0 w : World) (bd bp gh : Nat) (M : List UInt8) (i : Nat) : Prop := ∃ d, DAt w0 w bd bp gh d ∧ Live d ∧ d.n = 64 ∧ d.wait.length ≤ i ∧ ∀ k, k < i → readL d k = M
theorem MarkAt.q {w0 w w' : World} {bd bp gh i : Nat} {M : List UInt8} (h : MarkAt w0 w bd bp gh M i) (hq : Q w w') : MarkAt w0 w' bd bp gh M i := by
  obtain ⟨d, h1, h2⟩ := h
  exact ⟨d, h1.q hq, h2⟩
theorem Write_mark {w0 w : World} {bd bp gh i : Nat} {M : List UInt8} (h : MarkAt w0 w bd bp gh M i) (hi : i < 64) (hM : M.length = 64) (h0 : Q w0 w) :
    Calls Tryz.prog 8 #[.pointer (some ⟨bd, 0, none⟩), .int .i64 (i : Int), .string ⟨M.toArray⟩] w fun e w' => e = .returned .nilIface ∧ MarkAt w0 w' bd bp gh M (i + 1) ∧ K w0 [] w w' := by
  obtain ⟨d, h1, h2, h3, h4, h5⟩ := h
  refine (Write_any (i : Int) M h1 (by omega) (by omega) h0.size).mono ?_
  rintro e w' ⟨⟨v, he, hv⟩, hd, hk2⟩
  have hc := writeC_live h2 (k := i) (by omega) hM
  obtain ⟨l1, l2, l3⟩ := live_write h2 (k := i) (by omega) hM
  have hw := write_wait d (i : Int) M
  refine ⟨?_, ⟨_, hd, l1, l2.trans h3, by omega, fun k hk => ?_⟩, hk2⟩
  · rcases hv with ⟨_, rfl⟩ | ⟨hn, _⟩
    · exact he
    · exact absurd hc hn
  · rw [l3 k]
    split
    · rfl
    · exact h5 k (by omega)
theorem Flush_mark {w0 w : World} {bd bp gh : Nat} {M : List UInt8} (h : MarkAt w0 w bd bp gh M 64) (h0 : Q w0 w) :
    Calls Tryz.prog 9 #[.pointer (some ⟨bd, 0, none⟩)] w fun e w' => e = .returned .nilIface ∧ (∃ d, DAt w0 w' bd bp gh d ∧ Live d ∧ d.n = 64 ∧ d.wait = [] ∧ ∀ i, i < 64 → readL d i = M) ∧ K w0 [] w w' := by
  obtain ⟨d, h1, h2, h3, h4, h5⟩ := h
  obtain ⟨f1, f2, f3, f4, f5⟩ := live_flush h2 (by omega)
  refine (Flush_any h1 (by omega) h0.size).mono ?_
  rintro e w' ⟨⟨v, he, hv⟩, hd, hk2⟩
  refine ⟨?_, ⟨_, hd, f2, f3.trans h3, f4, fun i hi => (f5 i (by omega)).trans (h5 i hi)⟩, hk2⟩
  rcases hv with ⟨_, rfl⟩ | ⟨hx, _⟩
  · exact he
  · exact absurd f1 hx
/-- What StP says of the disk, whatever it is. -/
theorem StP.disk {w0 w : World} {bw bp bd gh f half : Nat} {m : List UInt8} (h : StP w0 w bw bp bd gh f half m) : ∃ d pj pr closed over rot wa wo, OutD f half m d ∧ d.n = 64 ∧ d.dead = false ∧ DAt w0 w bd bp gh d ∧ WAt w bw bp bd pj pr (f : Int) ((2 * half : Nat) : Int) closed over rot wa wo ∧ Q w0 w := by
  rcases h with ⟨bj, br, wa, wo, v, s, h1, h2⟩ | ⟨d, pj, pr, rot, wa, wo, h1, h2, h3, h4, h5, h6⟩
  · exact ⟨s.d, _, _, _, _, _, _, _, h1.out, h1.n, h1.dead, h2.j.d, h2.ww, h2.q⟩
  · exact ⟨d, _, _, _, _, _, _, _, h1, h2, h3, h4, h5, h6⟩
theorem StP.up {w0 w w' : World} {bw bp bd gh f half : Nat} {m : List UInt8} (h : StP w0 w bw bp bd gh f half m) (hq : Q w w') : StP w0 w' bw bp bd gh f half m := by
  rcases h with ⟨bj, br, wa, wo, v, s, h1, h2⟩ | ⟨d, pj, pr, rot, wa, wo, h1, h2, h3, h4, h5, h6⟩
  · exact .inl ⟨bj, br, wa, wo, v, s, h1, h2.up hq⟩
  · exact .inr ⟨d, pj, pr, rot, wa, wo, h1, h2, h3, h4.q hq, h5.q hq, h6.trans hq⟩
end Go.Proofs.YtcbepjepcabllaaGreatDoor
/- JournalPlays, walked: to the steps. -/
set_option linter.unusedVariables false
set_option linter.unusedSimpArgs false
namespace Go.Proofs.YtcbepjepcabllaaGreatDoor
open Go Go.RowKit
def markL : List UInt8 := zL 63 ++ [109]
theorem markL_len : markL.length = 64 := by unfold markL; rw [List.length_append, length_zL]; rfl
theorem box_world (w : World) (bp bd : Nat) : WAt (w.alloc (.cells (worldC bp bd (.pointer none) (.pointer none) 0 0 false false false (.slice none 0 0) (.slice none 0 0)) 33)) w.heap.size bp bd (.pointer none) (.pointer none) 0 0 false false false (.slice none 0 0) (.slice none 0 0) := (MapKept.heap_alloc w _).1
set_option maxRecDepth 100000 in
set_option maxHeartbeats 16000000 in
theorem JournalPlays_walk (fr sz : Int) (A : Option Addr) (n cap : Nat) (os : List StepD) (w : World) (hf : -9223372036854775808 ≤ fr ∧ fr ≤ 9223372036854775807) (hs : -9223372036854775808 ≤ sz ∧ sz ≤ 9223372036854775807) (hos : StepsAt w A n os) (hn : n ≤ 9223372036854775807) (het : ErrT w) :
    Calls Tryz.prog 3 #[.int .i64 fr, .int .i64 sz, .slice A n cap] w fun e w' => e = .returned (.bool true) ∧ Q w w' := by
  have HOS := Lib.hid hos
  have HET := Lib.hid het
  have HN := Lib.hid hn
  have HFR := Lib.hid hf
  have hp20 := pickZ_lt sz 20 (by decide)
  have HP1 := Lib.hid (fun w => pick_any sz 20 w (by decide) hs)
  obtain ⟨h2, hh2⟩ : ∃ P : Nat, pickZ sz 20 = (P : Int) := ⟨(pickZ sz 20).toNat, by omega⟩
  rw [hh2] at hp20 HP1
  have hh : h2 < 20 := by omega
  clear hos het hn hf hs hh2 hp20
  go_enter Tryz.func3, Tryz.ntmps3
  go_wp2_with fail
  refine (known_any w).mono ?_
  rintro e w1 ⟨rfl, hq1⟩
  have HQ1 := Lib.hid hq1
  clear hq1
  go_wp2_with fail
  refine (rack_any w1).mono ?_
  rintro e w2 ⟨⟨bd, bp, gh, rfl, hd⟩, hq2⟩
  have HQ2 := Lib.hid hq2
  have HD2 := Lib.hid hd
  clear hd hq2
  go_upto_region 4 with (fail)
  have hw3 := box_world w2 bp bd
  have hq3 : Q w2 (w2.alloc (.cells (worldC bp bd (.pointer none) (.pointer none) 0 0 false false false (.slice none 0 0) (.slice none 0 0)) 33)) := (Q.refl w2).alloc _
  obtain ⟨bw, hbw⟩ : ∃ b, w2.heap.size = b := ⟨_, rfl⟩
  have hb0 : w1.heap.size ≤ bw := by rw [← hbw]; exact HQ2.out.size
  rw [hbw] at hw3 ⊢
  obtain ⟨W3, hW3⟩ : ∃ W, w2.alloc (.cells (worldC bp bd (.pointer none) (.pointer none) 0 0 false false false (.slice none 0 0) (.slice none 0 0)) 33) = W := ⟨_, rfl⟩
  have hW3b : w2.alloc (.cells #[.pointer (some ⟨bp, 0, none⟩), .pointer (some ⟨bd, 0, none⟩), .pointer none, .pointer none, .int .i64 0, .int .i64 0, .bool false, .bool false, .bool false, .slice none 0 0, .slice none 0 0] 33) = W3 := hW3
  rw [hW3] at hw3 hq3
  rw [hW3b]
  have HB0 := Lib.hid hb0
  have HQ3 := Lib.hid (HQ2.out.trans hq3)
  have HD3 := Lib.hid (HD2.out.q hq3)
  have HW3 := Lib.hid hw3
  clear hw3 hq3 hbw hb0 hW3 hW3b HQ2 HD2
  -- the size
  have c5 := HW3.out.c5
  have f5 := HW3.out.fz 5
  go_upto_region 5 with (go_at_call 6; refine (HP1.out _).mono ?_; rintro e w4 ⟨rfl, rfl⟩)
  have hw4 := HW3.out.s5 (4 + 2 * (h2 : Int))
  have hg4 := gb_setCell W3 bw 5 (.int .i64 (4 + 2 * (h2 : Int)))
  have hd4 := HD3.out.gb hg4 (by rw [elemT_of HW3.out]; decide)
  have hq4 := gb_q hg4 HQ3.out HB0.out
  obtain ⟨half, hhalf⟩ : ∃ x, h2 + 2 = x := ⟨_, rfl⟩
  obtain ⟨S, hS⟩ : ∃ x, 2 * half = x := ⟨_, rfl⟩
  have e4 : 4 + 2 * (h2 : Int) = (S : Int) := by omega
  rw [e4] at hw4 hg4 hd4 hq4 ⊢
  have hS4 : 4 ≤ S ∧ S ≤ 42 := by omega
  have HS := Lib.hid hS
  have HH2 : Hid (2 ≤ half) := Lib.hid (by omega)
  obtain ⟨W4, hW4⟩ : ∃ W, W3.setCell ⟨bw, 5, none⟩ (.int .i64 (S : Int)) = W := ⟨_, rfl⟩
  rw [hW4] at hw4 hg4 hd4 hq4 ⊢
  have HW4 := Lib.hid hw4
  have HD4 := Lib.hid hd4
  have HQ4 := Lib.hid hq4
  have hp2 := pickZ_lt fr (64 - (S : Int) + 1) (by omega)
  have HP2 := Lib.hid (fun w => pick_any fr (64 - (S : Int) + 1) w (by omega) HFR.out)
  obtain ⟨f, hf⟩ : ∃ P : Nat, pickZ fr (64 - (S : Int) + 1) = (P : Int) := ⟨(pickZ fr (64 - (S : Int) + 1)).toNat, by omega⟩
  rw [hf] at hp2 HP2
  have hpl : f + S ≤ 64 := by omega
  have HPL := Lib.hid hpl
  have hSi : (S : Int) ≤ 42 := by omega
  have hSj : 4 ≤ (S : Int) := by omega
  clear hhalf hS e4 hW4 hw4 hg4 hd4 hq4 hf hp2 hpl hS4 hh HP1 HW3 HD3 HQ3 HFR c5 f5
  have c5 := HW4.out.c5
  have c4 := HW4.out.c4
  have f4 := HW4.out.fz 4
  -- the place
  go_upto_region 6 with (go_at_call 6; refine (HP2.out _).mono ?_; rintro e w5 ⟨rfl, rfl⟩)
  have hw5 := HW4.out.s4 (f : Int)
  have hg5 := gb_setCell W4 bw 4 (.int .i64 (f : Int))
  have hd5 := HD4.out.gb hg5 (by rw [elemT_of HW4.out]; decide)
  have hq5 := gb_q hg5 HQ4.out HB0.out
  obtain ⟨W5, hW5⟩ : ∃ W, W4.setCell ⟨bw, 4, none⟩ (.int .i64 (f : Int)) = W := ⟨_, rfl⟩
  rw [hW5] at hw5 hg5 hd5 hq5 ⊢
  have HW5 := Lib.hid hw5
  have HD5 := Lib.hid hd5
  have HQ5 := Lib.hid hq5
  clear hW5 hw5 hg5 hd5 hq5 HW4 HD4 HQ4 c5 c4 f4 HP2 hSi hSj
  -- the mark
  have HTX := Lib.hid (text_any 63 W5 (by decide))
  rw [show ((63 : Nat) : Int) = 63 from rfl] at HTX
  have hzl : (zL 63).length ≤ 63 := by rw [length_zL]; exact Nat.le_refl _
  have hmk : zL 63 ++ [109] = markL := rfl
  have hml := markL_len
  obtain ⟨M, hM⟩ : ∃ M, markL = M := ⟨_, rfl⟩
  rw [hM] at hmk hml
  have HMK := Lib.hid hmk
  have HML := Lib.hid hml
  obtain ⟨Z, hZ⟩ : ∃ Z, zL 63 = Z := ⟨_, rfl⟩
  rw [hZ] at HTX hzl HMK
  clear hmk hml hM hZ
  go_wp2_with fail
  refine HTX.out.mono ?_
  rintro e w6 ⟨rfl, hq6⟩
  have HW6 := Lib.hid (HW5.out.q hq6)
  have HD6 := Lib.hid (HD5.out.q hq6)
  have HQ6 := Lib.hid (HQ5.out.trans hq6)
  clear hq6 HTX HW5 HD5 HQ5
  go_upto_region 7 with (fail)
  rw [HMK.out]
  clear HMK hzl
  have hmk0 : MarkAt w1 w6 bd bp gh M 0 := ⟨newD, HD6.out, ⟨rfl, rfl, by show (-1 : Int) < 0; decide, newD_ok⟩, newD_n, Nat.le_refl 0, fun k hk => absurd hk (by omega)⟩
  have HM0 := Lib.hid hmk0
  clear hmk0 HD6
  go_wp2_with fail
  go_loopw [12] (fun iv wr => ∃ i : Nat, i ≤ 64 ∧ iv = .int .i64 (i : Int) ∧ Hid (MarkAt w1 wr bd bp gh M i) ∧ Hid (WAt wr bw bp bd (.pointer none) (.pointer none) (f : Int) (S : Int) false false false (.slice none 0 0) (.slice none 0 0)) ∧ Hid (Q w1 wr)) (fun iv _ => 64 - (intOf iv).toNat)
  case atStart => exact ⟨0, by omega, rfl, HM0.out, HW6.out, HQ6.out⟩
  case round =>
    clear HM0 HW6 HQ6
    obtain ⟨i, hi, rfl, HM, HW, HQ⟩ := hrel
    by_cases hlt : i < 64
    · have g1 : decide ((i : Int) < 64) = true := decide_eq_true (by omega)
      have HWR := Lib.hid (Write_mark HM.out hlt HML.out HQ.out)
      clear HM
      go_wp2_with fail
      refine HWR.out.mono ?_
      rintro e w7 ⟨rfl, hm7, hk7⟩
      have HM7 := Lib.hid hm7
      have HW7 := Lib.hid (HW.out.k hk7 (by simp))
      have HQ7 := Lib.hid (hk7.toQ HQ.out (by simp))
      clear hm7 hk7 HWR HW HQ
      go_wp2_with fail
      go_roundw
      case rel => exact ⟨i + 1, by omega, by go_num, HM7.out, HW7.out, HQ7.out⟩
      case measure => simp [intOf]; omega
    · have g1 : decide ((i : Int) < 64) = false := decide_eq_false (by omega)
      obtain rfl : i = 64 := by omega
      have HFL := Lib.hid (Flush_mark HM.out HQ.out)
      clear HM hlt hi
      go_wp2_with fail
      refine HFL.out.mono ?_
      rintro e w8 ⟨rfl, ⟨d8, hd8, hl8, hn8, hw8, hr8⟩, hk8⟩
      have HD8 := Lib.hid hd8
      have HLV := Lib.hid (And.intro hl8 hw8)
      have HN8 := Lib.hid hn8
      have HR8 := Lib.hid hr8
      have HW8 := Lib.hid (HW.out.k hk8 (by simp))
      have HQ8 := Lib.hid (hk8.toQ HQ.out (by simp))
      clear hd8 hl8 hn8 hw8 hr8 hk8 HFL HW HQ g1
      go_upto_region 14 with (fail)
      have hpl := HPL.out
      have HFM := Lib.hid (fun W (hq : Q w8 W) => Format_inv f half ⟨HD8.out.q hq, HLV.out.1, HLV.out.2⟩ HH2.out (by rw [HN8.out, HS.out]; exact hpl) (HQ8.out.trans hq).size)
      rw [HS.out] at HFM
      clear hpl
      obtain ⟨C, hC⟩ : ∃ C : World → Prop, C = (fun W => W.cell? ⟨bw, 4, none⟩ = some (.int .i64 (f : Int)) ∧ W.cell? ⟨bw, 5, none⟩ = some (.int .i64 (S : Int))) := ⟨_, rfl⟩
      have hCi : ∀ W, C W → W.cell? ⟨bw, 4, none⟩ = some (.int .i64 (f : Int)) ∧ W.cell? ⟨bw, 5, none⟩ = some (.int .i64 (S : Int)) := fun W h => by rw [hC] at h; exact h
      have HCW : Hid (∀ W, WAt W bw bp bd (.pointer none) (.pointer none) (f : Int) (S : Int) false false false (.slice none 0 0) (.slice none 0 0) → C W) := Lib.hid (fun W h => by rw [hC]; exact ⟨h.c4, h.c5⟩)
      have k4 : ∀ m : SWA C, m.val.cell? ⟨bw, 4, none⟩ = some (.int .i64 (f : Int)) := fun m => (hCi _ m.property).1
      have k5 : ∀ m : SWA C, m.val.cell? ⟨bw, 5, none⟩ = some (.int .i64 (S : Int)) := fun m => (hCi _ m.property).2
      have hC0 : C w8.drew := HCW.out _ (HW8.out.q (Q.refl w8).drew)
      haveI : Nonempty (SWA C) := ⟨⟨_, hC0⟩⟩
      clear hC hCi
      refine wp_region_noPanic ?_
      refine wp_plan_A C hC0 [([0, 1, 2, 3, 4, 5, 6, 7, 8], [9]), ([10, 11, 12, 13, 14], [])] (by kernel_rfl) (by kernel_rfl) (fun _ _ _ _ _ h => h) ?_
      simp only [wpPlan, wpListK, List.map_cons, List.map_nil, Array.getD_eq_getD_getElem?, List.getElem?_toArray, List.getElem?_cons_succ, List.getElem?_cons_zero, Option.getD_some]
      (repeat (go_big_quiet_step (fail)))
      refine wpQuiet_nil ?_
      clear k4 k5
      obtain ⟨Wd, hWd⟩ : ∃ W, w8.drew = W := ⟨_, rfl⟩
      have hqd : Q w8 Wd := by rw [← hWd]; exact (Q.refl w8).drew
      rw [hWd]
      clear hWd hC0
      intro KK hKK
      go_wp2_with fail
      refine (HFM.out _ hqd).mono ?_
      rintro e w9 ⟨bj, d9, rfl, hj9, ho9, hb9, hk9⟩
      have hW9 := (HW8.out.q hqd).k hk9 (by simp)
      have HQ9 := Lib.hid (hk9.toQ (HQ8.out.trans hqd) (by simp))
      have HW9 := Lib.hid hW9
      have hC9 := HCW.out _ hW9
      have HB9 : Hid (∃ j, JD w1 w9 bj bd bp gh j d9 ∧ PlOk f half M ⟨j, d9, 1, [], false, false, [], []⟩) := Lib.hid (by
        obtain ⟨j, h1, h2, h3, h4, h5⟩ := hj9
        have hpl := HPL.out
        have hs := HS.out
        exact ⟨j, h1, PlOk.begin (by omega) HH2.out HN8.out HR8.out h2 h3 h4 h5 ho9⟩)
      clear hqd hW9 hj9 ho9 hb9 hk9 HCW HFM HD8 HLV HN8 HR8 HW8 HQ8
      go_wp2_with fail
      refine hKK.out _ _ ⟨⟨_, hC9⟩, rfl⟩ ?_
      clear hKK hC9
      (repeat (go_big_quiet_step (fail)))
      refine wpQuiet_nil ?_
      refine NoPanic.normal ?_
      obtain ⟨j, hjd, hok⟩ := HB9.out
      have HJ9 := Lib.hid hjd
      have HOK := Lib.hid hok
      have hwt : d9.wait = [] := (hok.live rfl).1
      have HPN := Lib.hid (Pending_any hjd.d (by rw [hwt]; exact Nat.zero_le _))
      rw [hwt, show ((([] : List (Nat × List UInt8)).length : Nat) : Int) = 0 from rfl] at HPN
      clear hjd hok hwt HB9
      go_upto_region 15 with (fail)
      have c2 := HW9.out.c2
      have f2 := HW9.out.fz 2
      have HWX := Lib.hid (HW9.out.s2 (.pointer (some ⟨bj, 0, none⟩)))
      go_wp2_with fail
      refine HPN.out.mono ?_
      rintro e wx ⟨rfl, rfl⟩
      go_upto_region 18 with (fail)
      have hgX := gb_setCell w9 bw 2 (.pointer (some ⟨bj, 0, none⟩))
      have eX := elemT_of HW9.out
      have hne : bj ≠ bw := fun c => by
        have e := elemT_of HJ9.out.j
        subst c; rw [eX] at e; revert e; decide
      have HJX := Lib.hid (HJ9.out.gb hgX (by rw [eX]; decide) hne)
      have HQX := Lib.hid (gb_q hgX HQ9.out HB0.out)
      obtain ⟨W10, hW10⟩ : ∃ W, w9.setCell ⟨bw, 2, none⟩ (.pointer (some ⟨bj, 0, none⟩)) = W := ⟨_, rfl⟩
      rw [hW10] at HWX HJX HQX ⊢
      clear hW10 hgX eX hne c2 f2 HW9 HJ9 HQ9 HPN
      have c5 := HWX.out.c5
      have hS0 : 0 ≤ (S : Int) := by omega
      have hS1 : (S : Int) ≤ 64 := by have := HPL.out; omega
      have hqa : Q W10 (W10.alloc (.cells #[.int .i64 ((S : Int) / 2 - 1), .int .i64 1, .slice none 0 0] 44)) := (Q.refl _).alloc _
      have hra : RJAt (W10.alloc (.cells #[.int .i64 ((S : Int) / 2 - 1), .int .i64 1, .slice none 0 0] 44)) W10.heap.size ((S : Int) / 2 - 1) 1 (.slice none 0 0) := (MapKept.heap_alloc W10 _).1
      have hwa := HWX.out.q hqa
      have c3 := hwa.c3
      have f3 := hwa.fz 3
      have hws := hwa.s3 (.pointer (some ⟨W10.heap.size, 0, none⟩))
      have hg3 := gb_setCell (W10.alloc (.cells #[.int .i64 ((S : Int) / 2 - 1), .int .i64 1, .slice none 0 0] 44)) bw 3 (.pointer (some ⟨W10.heap.size, 0, none⟩))
      have eX := elemT_of hwa
      have hne : bj ≠ bw := fun c => by
        have e := elemT_of (HJX.out.q hqa).j
        subst c; rw [eX] at e; revert e; decide
      have hne2 : W10.heap.size ≠ bw := fun c => by
        have e := elemT_of hra
        rw [c, eX] at e; revert e; decide
      have hjs := (HJX.out.q hqa).gb hg3 (by rw [eX]; decide) hne
      have hrs := hra.gb hg3 hne2
      have hqs := gb_q hg3 (HQX.out.trans hqa) HB0.out
      have hbr : w1.heap.size ≤ W10.heap.size := HQX.out.size
      have eH : (S : Int) / 2 - 1 = ((half - 1 : Nat) : Int) := by have := HS.out; have := HH2.out; omega
      have HST : Hid (StP w1 ((W10.alloc (.cells #[.int .i64 ((S : Int) / 2 - 1), .int .i64 1, .slice none 0 0] 44)).setCell ⟨bw, 3, none⟩ (.pointer (some ⟨W10.heap.size, 0, none⟩))) bw bp bd gh f half M) := Lib.hid (by
        have hsn : ∀ W, StrS W (.slice none 0 0) [] := fun W => ⟨none, 0, rfl, ⟨rfl, fun h => absurd h (by decide)⟩, fun _ h => by cases h⟩
        have hcl := HOK.out.jcl
        refine .inl ⟨bj, W10.heap.size, .slice none 0 0, .slice none 0 0, .slice none 0 0, _, HOK.out, ⟨hjs, ?_, ?_, hsn _, hsn _, hsn _, HB0.out, hbr, hqs⟩⟩
        · rw [HS.out]; exact hws
        · rw [← eH]; exact hrs)
      clear hqa hra hwa hws hg3 eX hne hne2 hjs hrs hqs hbr eH HWX HJX HQX HOK
      go_upto_region 19 with (fail)
      obtain ⟨W11, hW11⟩ : ∃ W, (W10.alloc (.cells #[.int .i64 ((S : Int) / 2 - 1), .int .i64 1, .slice none 0 0] 44)).setCell ⟨bw, 3, none⟩ (.pointer (some ⟨W10.heap.size, 0, none⟩)) = W := ⟨_, rfl⟩
      rw [hW11] at HST ⊢
      clear hW11 c5 hS0 hS1 c3 f3 this
      go_wp2_with fail
      go_loopw [15] (fun iv wr => ∃ i : Nat, i ≤ 100 ∧ iv = .int .i64 (i : Int) ∧ Hid (StP w1 wr bw bp bd gh f half M)) (fun iv _ => 101 - (intOf iv).toNat)
      case atStart => exact ⟨0, by omega, rfl, HST.out⟩
      case round =>
        clear HST
        rename World => wr
        obtain ⟨i, hi, rfl, HST⟩ := hrel
        obtain ⟨ov, hov, hlive⟩ : ∃ ov, wr.cell? ⟨bw, 7, none⟩ = some (.bool ov) ∧ (ov = false → ∃ bj br wa wo v s, PlOk f half M s ∧ PWv w1 wr bw bp bd gh bj br f half wa wo v s) := by
          rcases HST.out with ⟨bj, br, wa, wo, v, s, h1, h2⟩ | ⟨d, pj, pr, rot, wa, wo, h1, h2, h3, h4, h5, h6⟩
          · exact ⟨false, h2.ww.c7, fun _ => ⟨bj, br, wa, wo, v, s, h1, h2⟩⟩
          · exact ⟨true, h5.c7, fun h => by cases h⟩
        have HLV := Lib.hid hlive
        clear hlive
        by_cases hlt : i < n ∧ i < 100 ∧ ov = false
        · obtain ⟨hl1, hl2, rfl⟩ := hlt
          have g1 : decide (i < n) = true := decide_eq_true hl1
          have g2 : decide ((i : Int) < 100) = true := decide_eq_true (by omega)
          obtain ⟨bj, br, wa, wo, v, s, hok, hpw⟩ := HLV.out rfl
          obtain ⟨g, off, o, rfl, hoo, e0, e1, e2, e3, e4, e5⟩ := (HOS.out.q HQ1.out).at hl1
          have HSTP : Hid (Calls Tryz.prog 12 #[.pointer (some ⟨bw, 0, none⟩), .agg #[.int .i64 o.k, .int .i64 o.n, .string ⟨o.t.toArray⟩, .slice o.A1 o.ts.length o.c1, .slice o.A2 o.ks.length o.c2, .int .i64 o.torn]] wr fun e w' => e = .returned (.bool true) ∧ StP w1 w' bw bp bd gh f half M) := Lib.hid (step_any hpw hok (HET.out.q HQ1.out) o hoo)
          replace e0 := hpw.q.cell e0
          replace e1 := hpw.q.cell e1
          replace e2 := hpw.q.cell e2
          replace e3 := hpw.q.cell e3
          replace e4 := hpw.q.cell e4
          replace e5 := hpw.q.cell e5
          clear HLV HST hpw hok hoo
          go_wp2_with fail
          refine HSTP.out.mono ?_
          rintro e w12 ⟨rfl, hst⟩
          have HST := Lib.hid hst
          clear hst HSTP e0 e1 e2 e3 e4 e5 hov g1 g2
          go_upto_region 25 with (fail)
          -- what the two journals say of themselves
          have hcase : (∃ bj br wa wo v s, s.closed = false ∧ PlOk f half M s ∧ PWv w1 w12 bw bp bd gh bj br f half wa wo v s) ∨ w12.cell? ⟨bw, 6, none⟩ = some (.bool true) := by
            rcases HST.out with ⟨bj, br, wa, wo, v, s, h1, h2⟩ | ⟨d, pj, pr, rot, wa, wo, h1, h2, h3, h4, h5, h6⟩
            · cases hc : s.closed with
              | true => exact .inr (by have := h2.ww.c6; rw [hc] at this; exact this)
              | false => exact .inl ⟨bj, br, wa, wo, v, s, hc, h1, h2⟩
            · exact .inr h5.c6
          rcases hcase with ⟨bj, br, wa, wo, v, s, hcl, hok, hpw⟩ | hc6
          · have hlv := hok.live hcl
            obtain ⟨A3, c3, rfl, hst3, hty3⟩ := hpw.rs
            have hfit := hok.fits
            have hlen := hok.len
            have hjh := hok.jh
            have HL1 : Hid (∀ m : QW w12, Calls Tryz.prog 13 #[.pointer (some ⟨bj, 0, none⟩)] m.val fun e w' => e = .returned (.int .i64 ((half - 1 - wantS s.recs : Nat) : Int)) ∧ Q m.val w') := Lib.hid (fun m => by
              have := Left_any (hpw.j.q m.le).j hok.jok
              rwa [hjh, hlv.2.2.2, show half - (1 + wantS s.recs) = half - 1 - wantS s.recs by omega] at this)
            have HL2 : Hid (∀ m : QW w12, Calls Tryz.prog 14 #[.pointer (some ⟨br, 0, none⟩)] m.val fun e w' => e = .returned (.int .i64 ((half - 1 - wantS s.recs : Nat) : Int)) ∧ m.val = w') := Lib.hid (fun m => RLeft_any (hpw.r.q m.le) (hpw.rs.q m.le) (by omega) (by have := HPL.out; have := HS.out; omega) hok.small)
            have HHF : Hid (∀ m : QW w12, Calls Tryz.prog 15 #[.pointer (some ⟨bj, 0, none⟩)] m.val fun e w' => e = .returned (.int .i64 ((half - 1 : Nat) : Int)) ∧ m.val = w') := Lib.hid (fun m => by
              have := Half_any (hpw.j.q m.le).j hok.jok
              rwa [hjh] at this)
            have HEP : Hid (∀ m : QW w12, Calls Tryz.prog 16 #[.pointer (some ⟨bj, 0, none⟩)] m.val fun e w' => e = .returned (.int .i64 (s.ep : Int)) ∧ m.val = w') := Lib.hid (fun m => by
              have := Epoch_any (hpw.j.q m.le).j
              rwa [← hlv.2.1] at this)
            have HLN : Hid (∀ m : QW w12, Calls Tryz.prog 17 #[.pointer (some ⟨bj, 0, none⟩)] m.val fun e w' => e = .returned (.int .i64 (s.recs.length : Int)) ∧ m.val = w') := Lib.hid (fun m => by
              have := Len_any (hpw.j.q m.le).j
              rwa [hlv.2.2.1] at this)
            have q6 : ∀ m : QW w12, m.val.cell? ⟨bw, 6, none⟩ = some (.bool false) := fun m => m.cell (by have := hpw.ww.c6; rw [hcl] at this; exact this)
            have q2 : ∀ m : QW w12, m.val.cell? ⟨bw, 2, none⟩ = some (.pointer (some ⟨bj, 0, none⟩)) := fun m => m.cell hpw.ww.c2
            have q3 : ∀ m : QW w12, m.val.cell? ⟨bw, 3, none⟩ = some (.pointer (some ⟨br, 0, none⟩)) := fun m => m.cell hpw.ww.c3
            have r0 : ∀ m : QW w12, m.val.cell? ⟨br, 0, none⟩ = some (.int .i64 ((half - 1 : Nat) : Int)) := fun m => m.cell hpw.r.c0
            have r1 : ∀ m : QW w12, m.val.cell? ⟨br, 1, none⟩ = some (.int .i64 (s.ep : Int)) := fun m => m.cell hpw.r.c1
            have r2 : ∀ m : QW w12, m.val.cell? ⟨br, 2, none⟩ = some (.slice A3 s.recs.length c3) := fun m => m.cell hpw.r.c2
            clear hlv hst3 hty3 hfit hlen hjh hpw hok hcl
            generalize half - 1 - wantS s.recs = LF at *
            generalize s.recs.length = RL at *
            generalize s.ep = EP at *
            generalize half - 1 = HF at *
            refine wp_region_q (by kernel_rfl) (by kernel_rfl) ?_
            (repeat (go_big_quiet_step (first | (go_at_call 13; exact calls_q (HL1.out _)) | (go_at_call 14; exact calls_qs (HL2.out _)) | (go_at_call 15; exact calls_qs (HHF.out _)) | (go_at_call 16; exact calls_qs (HEP.out _)) | (go_at_call 17; exact calls_qs (HLN.out _)))))
            refine wpQuiet_nil ?_
            rintro wa ⟨ma, hma⟩
            have hqa : Q w12 wa := by rw [hma]; exact ma.le
            have HSTa := Lib.hid (HST.out.up hqa)
            clear hma ma hqa HST q6 q2 q3 r0 r1 r2 HL1 HL2 HHF HEP HLN
            go_wp2_with fail
            go_roundw
            case rel => exact ⟨i + 1, by omega, by go_num, HSTa.out⟩
            case measure => simp [intOf]; omega
          · have q6 : ∀ m : QW w12, m.val.cell? ⟨bw, 6, none⟩ = some (.bool true) := fun m => m.cell hc6
            clear hc6
            refine wp_region_q (by kernel_rfl) (by kernel_rfl) ?_
            (repeat (go_big_quiet_step (fail)))
            refine wpQuiet_nil ?_
            rintro wa ⟨ma, hma⟩
            have hqa : Q w12 wa := by rw [hma]; exact ma.le
            have HSTa := Lib.hid (HST.out.up hqa)
            clear hma ma hqa HST q6
            go_wp2_with fail
            go_roundw
            case rel => exact ⟨i + 1, by omega, by go_num, HSTa.out⟩
            case measure => simp [intOf]; omega
        · obtain ⟨d, pj, pr, cl, over, rot, wa, wo, hout, hdn, hdead, hdat, hww, hqr⟩ := HST.out.disk
          have HIM := Lib.hid (Image_any hdat hdead)
          have hX4 : d.has.length = 4096 := by rw [hout.ok.len, hdn]
          have hO : ∀ k, ¬ (f ≤ k ∧ k < f + S) → k < 64 → sub d.has (64 * k) (64 * k + 64) = M := fun k h1 h2 => by
            have := hout.has k (by rw [HS.out]; exact h1) (by rw [hdn]; exact h2)
            rwa [Nat.mul_comm k 64] at this
          obtain ⟨X, hX⟩ : ∃ X, d.has = X := ⟨_, rfl⟩
          rw [hX] at HIM hX4 hO
          have HX4 := Lib.hid hX4
          have HO := Lib.hid hO
          rw [HS.out] at hww
          have HWW := Lib.hid hww
          have HQR := Lib.hid hqr
          have hex : (decide (i < n) = false) ∨ (decide (i < n) = true ∧ decide ((i : Int) < 100) = false) ∨ (decide (i < n) = true ∧ decide ((i : Int) < 100) = true ∧ ov = true) := by
            by_cases h1 : i < n
            · by_cases h2 : i < 100
              · refine .inr (.inr ⟨decide_eq_true h1, decide_eq_true (by omega), ?_⟩)
                cases ov with
                | true => rfl
                | false => exact absurd ⟨h1, h2, rfl⟩ hlt
              · exact .inr (.inl ⟨decide_eq_true h1, decide_eq_false (by omega)⟩)
            · exact .inl (decide_eq_false h1)
          clear hlt HLV hout hdn hdead hdat hww hqr hX hX4 hO HST
          rcases hex with g1 | ⟨g1, g2⟩ | ⟨g1, g2, rfl⟩
          all_goals
            go_wp2_with fail
            refine HIM.out.mono ?_
            rintro e w13 ⟨rfl, rfl⟩
            go_wp2_with fail
            clear hov
            go_loopw [18] (fun kv wx => ∃ k : Nat, k ≤ 64 ∧ kv = .int .i64 (k : Int) ∧ Hid (Q wr wx)) (fun kv _ => 64 - (intOf kv).toNat)
            case atStart => exact ⟨0, by omega, rfl, Q.refl _⟩
            case round =>
              rename World => wx
              obtain ⟨k, hk, rfl, HQX⟩ := hrel
              by_cases hk64 : k < 64
              · have g3 : decide ((k : Int) < 64) = true := decide_eq_true (by omega)
                have q4 : ∀ m : QW wx, m.val.cell? ⟨bw, 4, none⟩ = some (.int .i64 (f : Int)) := fun m => m.cell (HQX.out.cell HWW.out.c4)
                have q5 : ∀ m : QW wx, m.val.cell? ⟨bw, 5, none⟩ = some (.int .i64 (S : Int)) := fun m => m.cell (HQX.out.cell HWW.out.c5)
                have t1 : (64 * (k : Int)).toNat = 64 * k := by omega
                have t2 : (64 * (k : Int) + 64).toNat = 64 * k + 64 := by omega
                have hx4 := HX4.out
                have b1 : 64 * (k : Int) + 64 ≤ (X.length : Int) := by omega
                have b2 : (X.length : Int) ≤ 4096 := by omega
                have b3 : (k : Int) ≤ 64 := by omega
                have hpl := HPL.out
                have b4 : (f : Int) + (S : Int) ≤ 64 := by omega
                have hkc : (decide (k < f) = true ∧ (sub X (64 * k) (64 * k + 64) == M) = true ∧ (sub X (64 * k) (64 * k + 64) != M) = false) ∨ (decide (k < f) = false ∧ decide ((f : Int) + (S : Int) ≤ (k : Int)) = true ∧ (sub X (64 * k) (64 * k + 64) == M) = true ∧ (sub X (64 * k) (64 * k + 64) != M) = false) ∨ (decide (k < f) = false ∧ decide ((f : Int) + (S : Int) ≤ (k : Int)) = false) := by
                  by_cases h1 : k < f
                  · have e := HO.out k (by omega) hk64
                    exact .inl ⟨decide_eq_true h1, by rw [e]; simp, by rw [e]; simp⟩
                  · by_cases h2 : f + S ≤ k
                    · have e := HO.out k (by omega) hk64
                      exact .inr (.inl ⟨decide_eq_false h1, decide_eq_true (by omega), by rw [e]; simp, by rw [e]; simp⟩)
                    · exact .inr (.inr ⟨decide_eq_false h1, decide_eq_false (by omega)⟩)
                have hk63 : k + 1 ≤ 64 := by omega
                clear hx4 hpl hk64
                go_upto_region 31 with (fail)
                rcases hkc with ⟨g4, g5, g6⟩ | ⟨g4, g5, g6, g7⟩ | ⟨g4, g5⟩
                all_goals
                  refine wp_region_q (by kernel_rfl) (by kernel_rfl) ?_
                  (repeat (go_big_quiet_step (fail)))
                  refine wpQuiet_nil ?_
                  rintro wz ⟨mz, hmz⟩
                  have hqz : Q wx wz := by rw [hmz]; exact mz.le
                  have HQZ := Lib.hid (HQX.out.trans hqz)
                  clear hmz mz hqz q4 q5 HQX
                  go_wp2_with fail
                  go_roundw
                  case rel => exact ⟨k + 1, by omega, by go_num, HQZ.out⟩
                  case measure => simp [intOf]; omega
              · have g3 : decide ((k : Int) < 64) = false := decide_eq_false (by omega)
                have HQF := Lib.hid (HQ1.out.trans (HQR.out.trans HQX.out))
                clear hk64 HQX
                go_wp2_with fail
                go_ret
                exact ⟨rfl, HQF.out⟩
end Go.Proofs.YtcbepjepcabllaaGreatDoor
/- Arguments that came in, opened: slices of strings. -/
set_option linter.unusedVariables false
namespace Go.Proofs.YtcbepjepcabllaaGreatDoor
open Go Go.RowKit Go.ChangeShapes Go.WideShapes
theorem strs_open {H : Type} {enc : TypeId × Value → H} {W : World} {A : Option Addr} {len cap : Nat} {d : DataW H} {p : List MemPlace}
    (h : DataW.Trod enc Tryz.prog W 0 (fun _ => true) true 31 (.slice A len cap) d p) :
    ∃ ls : List (List UInt8), StrsAt W A len ls ∧ cap ≤ 9223372036854775807 ∧ len ≤ cap ∧ ∀ s ∈ ls, s.length ≤ 9223372036854775807 := by
  obtain ⟨fuel, hf⟩ := h
  rcases open_strings Tryz.underlying31 Tryz.underlying9 (by kernel_rfl) hf with ⟨hcs, hx⟩ | ⟨a, len', cap', ss, hcs, _, hl, hm, hz, hx, hcell, hws⟩
  · simp [Value.cells] at hcs
    obtain ⟨rfl, rfl, rfl⟩ := hcs
    exact ⟨[], ⟨rfl, fun h => absurd h (by omega)⟩, by omega, by omega, by simp⟩
  · simp [Value.cells] at hcs
    obtain ⟨rfl, rfl, rfl⟩ := hcs
    simp only [if_true] at hz
    refine ⟨(ss.take len).map (fun s => s.data.toList), ⟨by simp; omega, fun _ => ⟨a, rfl, fun i hi => ?_⟩⟩, hm, hl, ?_⟩
    · have hi' : i < len ∧ i < ss.length := by simp at hi; omega
      rw [hcell i hi'.2]
      simp [List.getD, hi'.2]
    · intro s hs
      obtain ⟨t, ht, rfl⟩ := List.mem_map.1 hs
      exact hws t (List.mem_of_mem_take ht)
end Go.Proofs.YtcbepjepcabllaaGreatDoor
/- A slice of strings that came in, of small bulk: how long its texts are in all. -/
set_option linter.unusedVariables false
namespace Go.Proofs.YtcbepjepcabllaaGreatDoor
open Go Go.RowKit Go.ChangeShapes Go.WideShapes
theorem bulk_strs {H : Type} (ss : List ByteArray) : (ss.map (fun s => s.data.toList)).flatten.length ≤ Rows.uptoBulkAll (H := H) (strs ss) ∧ ss.length ≤ Rows.uptoBulkAll (H := H) (strs ss) := by
  induction ss with
  | nil => simp
  | cons a r ih =>
    have h1 := ih.1
    have h2 := ih.2
    simp only [strs, List.map_cons, List.flatten_cons, List.length_append, Rows.uptoBulkAll, Rows.uptoBulk, List.length_cons] at h1 h2 ⊢
    omega
theorem strs_bulk {H : Type} {enc : TypeId × Value → H} {W : World} {A : Option Addr} {len cap : Nat} {d : DataW H} {p : List MemPlace}
    (h : DataW.Trod enc Tryz.prog W 0 (fun _ => true) true 31 (.slice A len cap) d p) :
    ∃ ls : List (List UInt8), StrsAt W A len ls ∧ cap ≤ 9223372036854775807 ∧ len ≤ cap ∧ ls.flatten.length ≤ Rows.uptoBulk d ∧ ls.length ≤ Rows.uptoBulk d := by
  obtain ⟨fuel, hf⟩ := h
  rcases open_strings Tryz.underlying31 Tryz.underlying9 (by kernel_rfl) hf with ⟨hcs, hx⟩ | ⟨a, len', cap', ss, hcs, _, hl, hm, hz, hx, hcell, hws⟩
  · simp [Value.cells] at hcs
    obtain ⟨rfl, rfl, rfl⟩ := hcs
    exact ⟨[], ⟨rfl, fun h => absurd h (by omega)⟩, by omega, by omega, by simp, by simp⟩
  · simp [Value.cells] at hcs
    obtain ⟨rfl, rfl, rfl⟩ := hcs
    simp only [if_true] at hz
    have hb := bulk_strs (H := H) (ss.take len)
    have hd : d = .slice (strs (ss.take len)) (strs (ss.drop len)) := congrArg Prod.fst hx
    refine ⟨(ss.take len).map (fun s => s.data.toList), ⟨by simp; omega, fun _ => ⟨a, rfl, fun i hi => ?_⟩⟩, hm, hl, ?_, ?_⟩
    · have hi' : i < len ∧ i < ss.length := by simp at hi; omega
      rw [hcell i hi'.2]
      simp [List.getD, hi'.2]
    · rw [hd, Rows.uptoBulk]; have := hb.1; omega
    · rw [hd, Rows.uptoBulk, List.length_map]; have := hb.2; omega
end Go.Proofs.YtcbepjepcabllaaGreatDoor
