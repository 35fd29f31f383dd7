/- Texts of this proof, laid into one: KcC, KcD, KcE, KcF, PlS, KcG, KcH. -/
import Derived.Test.YtlhhiiemojhjdaaDoorMs09
import Derived.Lib.SliceRun
set_option linter.unusedVariables false
set_option linter.unusedSimpArgs false
namespace Go.Proofs.YtlhhiiemojhjdaaDoor
open Go Go.RowKit
theorem cnt_gK {ks : List JsonD} {i : Nat} (h : i < ks.length) : cntJ (gK ks i) ≤ cntKs ks := by
  have hs := gK_split ks i h
  have : cntKs ks = cntKs (ks.take i) + (cntJ (gK ks i) + cntKs (ks.drop (i + 1))) := by
    conv => lhs; rw [hs]
    rw [cntKs_app, cntKs]
  omega
theorem right_all : ∀ (n : Nat) (j : JsonD), cntJ j ≤ n → ∀ (d : Nat), d ≤ 20 → ∀ (wJ w : World) (vn vk : Value) (lb : Nat) (L : Int), RtH j wJ w vn vk lb L → 0 ≤ L → L ≤ 8000 →
    Calls Tryd.prog 64 #[.agg (cellJ j vn vk).toArray, .int .i64 (20 - (d : Int)), .pointer (some ⟨lb, 0, none⟩)] w (RtP j d L lb w)
  | 0, j, hn, _, _, _, _, _, _, _, _, _, _, _ => absurd hn (by have := cnt_pos j; omega)
  | n + 1, j, hn, d, hd, wJ, w, vn, vk, lb, L, h, hL, hL2 => by
    by_cases h0 : L = 0
    · exact right_zero j d wJ w vn vk lb L h h0 _
    · have hL1 : 1 ≤ L := by omega
      obtain ⟨k, t, ns, ks⟩ := j
      rw [cntJ] at hn
      have IH : 0 < d → RtKids ks d (20 - (d : Int)) wJ lb := fun hd0 i hi W un uk L' hh h1 h2 => by
        have hc := cnt_gK hi
        have := right_all n (gK ks i) (by omega) (d - 1) (by omega) wJ W un uk lb L' hh h1 h2
        rw [show (20 : Int) - ((d - 1 : Nat) : Int) = 20 - (d : Int) + 1 by omega] at this
        exact this
      by_cases e1 : k = 1
      · subst e1; exact right_1 t ns ks d wJ w vn vk lb L h hL1 hL2 _
      · by_cases e2 : k = 2
        · subst e2; exact right_2 t ns ks d wJ w vn vk lb L h hL1 hL2 _
        · by_cases e3 : k = 3
          · subst e3; exact right_3 t ns ks d wJ w vn vk lb L h hL1 hL2 _
          · by_cases e4 : k = 4
            · subst e4; exact right_4 t ns ks d wJ w vn vk lb L h hL1 hL2 _
            · by_cases e5 : k = 5
              · subst e5; exact right_5 t ns ks d wJ w vn vk lb L h hL1 hL2 _
              · by_cases e6 : k = 6
                · subst e6; exact right_6 t ns ks d hd _ rfl wJ w vn vk lb L IH h hL1 hL2
                · by_cases e7 : k = 7
                  · subst e7; exact right_7 t ns ks d hd _ rfl wJ w vn vk lb L IH h hL1 hL2
                  · exact right_other k t ns ks ⟨e1, e2, e3, e4, e5, e6, e7⟩ d wJ w vn vk lb L h hL1 hL2 _
set_option maxRecDepth 100000 in
theorem isRight_any (j : JsonD) (w : World) (vn vk : Value) (hj : JV w j vn vk) (hu : UT w) (hb : bigJ 9223372036854775807 j) :
    Calls Tryd.prog 40 #[.agg (cellJ j vn vk).toArray] w fun e w' => e = .returned (.bool (rtB j 20 8000)) ∧ Q w w' := by
  have HJ := Lib.hid hj
  have HU := Lib.hid hu
  have HB := Lib.hid hb
  have HIn := Lib.hid (info_sz j vn vk)
  clear hj hu hb
  go_enter Tryd.func40, Tryd.ntmps40
  go_upto_region 2 with (fail)
  have e1 := heap_alloc_new w (.cells (cellJ j vn vk).toArray 40)
  have q1 : Q w (w.alloc (.cells (cellJ j vn vk).toArray 40)) := (Q.refl w).alloc _
  have s1 : (w.alloc (.cells (cellJ j vn vk).toArray 40)).heap.size = w.heap.size + 1 := by simp
  obtain ⟨W1, hW1⟩ : ∃ W1, w.alloc (.cells (cellJ j vn vk).toArray 40) = W1 := ⟨_, rfl⟩
  rw [hW1] at e1 q1 s1
  rw [hW1]
  have e2 := heap_alloc_new W1 (.cells #[.int .i64 8000] 3)
  have q2 : Q W1 (W1.alloc (.cells #[.int .i64 8000] 3)) := (Q.refl W1).alloc _
  rw [s1] at e2
  obtain ⟨W2, hW2⟩ : ∃ W2, W1.alloc (.cells #[.int .i64 8000] 3) = W2 := ⟨_, rfl⟩
  rw [hW2] at e2 q2
  rw [hW2]
  have HB1 := Lib.hid (q2.block e1)
  have HQ2 := Lib.hid (q1.trans q2)
  have HR := Lib.hid (right_all (cntJ j) j (Nat.le_refl _) 20 (by omega) w W2 vn vk (w.heap.size + 1) 8000 ⟨HJ.out, q1.trans q2, HU.out, by omega, e2, HB.out⟩ (by omega) (by omega))
  rw [show (20 : Int) - ((20 : Nat) : Int) = 0 from rfl] at HR
  clear e1 e2 q1 q2 s1 hW1 hW2
  iterate 1 go_step
  refine wpList_load_row rfl 40 (.tmp 1) rfl w.heap.size rfl 40 (cellJ j vn vk).toArray (0, 0) _ HB1.out Tryd.underlying40 rfl HIn.out ?_
  simp only [Act.put, List.setIfInBounds_toArray, List.set_cons_succ, List.set_cons_zero]
  go_wp2_with fail
  refine HR.out.mono ?_
  rintro e W3 ⟨rfl, hg, _⟩
  have HX := Lib.hid (hg.toQ HQ2.out (by intro x hx; simp at hx; omega))
  clear hg
  go_wp2_with fail
  go_ret
  exact ⟨rfl, HX.out⟩
end Go.Proofs.YtlhhiiemojhjdaaDoor
set_option linter.unusedVariables false
set_option linter.unusedSimpArgs false
namespace Go.Proofs.YtlhhiiemojhjdaaDoor
open Go Go.RowKit
mutual
def eqJ : JsonD → JsonD → Bool
  | .mk k t ns ks, .mk k' t' ns' ks' => decide (k = k') && ((t == t') && ((ns == ns') && eqKs ks ks'))
def eqKs : List JsonD → List JsonD → Bool
  | [], [] => true
  | a :: r, b :: s => eqJ a b && eqKs r s
  | _, _ => false
end
mutual
theorem eqJ_iff : ∀ (a b : JsonD), eqJ a b = true ↔ a = b
  | .mk k t ns ks, .mk k' t' ns' ks' => by
    rw [eqJ]
    simp only [Bool.and_eq_true, decide_eq_true_eq, beq_iff_eq, eqKs_iff ks ks']
    constructor
    · rintro ⟨rfl, rfl, rfl, rfl⟩; rfl
    · intro h; injection h with h1 h2 h3 h4; exact ⟨h1, h2, h3, h4⟩
theorem eqKs_iff : ∀ (a b : List JsonD), eqKs a b = true ↔ a = b
  | [], [] => by rw [eqKs]; simp
  | a :: r, b :: s => by rw [eqKs, Bool.and_eq_true, eqJ_iff a b, eqKs_iff r s]; simp
  | [], b :: s => by rw [eqKs]; simp; intros; contradiction; intros; contradiction
  | a :: r, [] => by rw [eqKs]; simp; intros; contradiction; intros; contradiction
end
set_option maxRecDepth 100000 in
theorem equal_names (ns ms : List Txt) (w : World) (vn un : Value) (h1 : NsV w vn ns) (h2 : NsV w un ms) :
    Calls Tryd.prog 78 #[vn, un] w fun e w' => e = .returned (.bool (ns == ms)) ∧ Q w w' := by
  obtain ⟨A, c, rfl, a1, a2, a3⟩ := h1.at
  obtain ⟨B, d, rfl, b1, b2, b3⟩ := h2.at
  have HA := Lib.hid a3
  have HB := Lib.hid b3
  clear h1 h2 a3 b3
  by_cases hl : ns.length = ms.length
  · have g1 : (((ns.length : Int)) != (ms.length : Int)) = false := by simp; omega
    obtain ⟨E, hE⟩ : ∃ E, (ns == ms) = E := ⟨_, rfl⟩
    rw [hE]
    have HE := Lib.hid hE
    have HL := Lib.hid hl
    have hnl : ns.length ≤ 9223372036854775807 := by omega
    obtain ⟨ml, hml⟩ : ∃ ml, ms.length = ml := ⟨_, rfl⟩
    have HML := Lib.hid hml
    rw [hml] at g1
    rw [hml]
    have hlt : ∀ k, k < ns.length → k < ml := fun k hk => by omega
    clear hE hl a2 b2 b1 hml
    go_enter Tryd.func78, Tryd.ntmps78
    go_wp2_with fail
    clear g1
    go_loopw [13] (fun i wx => ∃ k : Nat, k ≤ ns.length ∧ i = .int .i64 k ∧ Hid (Q w wx ∧ ns.take k = ms.take k)) (fun i _ => ns.length - (intOf i).toNat)
    case atStart => exact ⟨0, by omega, rfl, Lib.hid ⟨Q.refl w, rfl⟩⟩
    case round =>
      obtain ⟨k, hk, rfl, HI⟩ := hrel
      rename World => wa
      by_cases hk2 : k < ns.length
      · have hd : decide (k < ns.length) = true := by simpa using hk2
        have hk3 : k < ml := hlt k hk2
        have hd3 : decide (k < ml) = true := by simpa using hk3
        obtain ⟨g, off, e1, ha⟩ := HA.out k hk2
        obtain ⟨g', off', e2, hb⟩ := HB.out k (by rw [HML.out]; exact hk3)
        subst e1 e2
        have ca : ∀ mm : QW wa, mm.val.cell? ⟨g, off + k, none⟩ = some (.string ⟨(gL ns k).toArray⟩) := fun mm => mm.cell (HI.out.1.cell ha)
        have cb : ∀ mm : QW wa, mm.val.cell? ⟨g', off' + k, none⟩ = some (.string ⟨(gL ms k).toArray⟩) := fun mm => mm.cell (HI.out.1.cell hb)
        obtain ⟨x, hx⟩ : ∃ x, gL ns k = x := ⟨_, rfl⟩
        obtain ⟨y, hy⟩ : ∃ y, gL ms k = y := ⟨_, rfl⟩
        have HX := Lib.hid hx
        have HY := Lib.hid hy
        rw [hx] at ca
        rw [hy] at cb
        clear ha hb hx hy
        have HT1 : Hid (ns.take (k + 1) = ns.take k ++ [x]) := Lib.hid (by rw [← HX.out, List.take_add_one, List.getElem?_eq_getElem hk2]; simp [gL, List.getD, hk2])
        have HT2 : Hid (ms.take (k + 1) = ms.take k ++ [y]) := Lib.hid (by
          have hk4 : k < ms.length := by rw [HML.out]; exact hk3
          rw [← HY.out, List.take_add_one, List.getElem?_eq_getElem hk4]; simp [gL, List.getD, hk4])
        by_cases hxy : x = y
        · have g2 : (x == y) = true := by simpa using hxy
          have HT3 : Hid (ns.take (k + 1) = ms.take (k + 1)) := Lib.hid (by rw [HT1.out, HT2.out, HI.out.2, hxy])
          clear hxy
          go_upto_region 6 with (fail)
          refine wp_region_q (by kernel_rfl) (by kernel_rfl) ?_
          (repeat (go_big_quiet_step (fail)))
          refine wpQuiet_nil ?_
          rintro w2 ⟨m2, hm2⟩
          have hq2 : Q wa w2 := by rw [hm2]; exact m2.le
          have HN : Hid (Q w w2 ∧ ns.take (k + 1) = ms.take (k + 1)) := Lib.hid ⟨HI.out.1.trans hq2, HT3.out⟩
          clear m2 hm2 ca cb hq2
          go_wp2_with fail
          go_roundw
          case rel => exact ⟨k + 1, by omega, by go_num, HN⟩
          case measure => simp [intOf]; omega
        · have g2 : (x == y) = false := by simpa using hxy
          have HE2 : Hid (E = false) := Lib.hid (by
            rw [← HE.out, beq_eq_false_iff_ne]
            intro e
            subst e
            exact hxy (by rw [← HX.out, ← HY.out]))
          clear hxy
          go_upto_region 6 with (fail)
          refine wp_region_q (by kernel_rfl) (by kernel_rfl) ?_
          (repeat (go_big_quiet_step (fail)))
          refine wpQuiet_nil ?_
          rintro w2 ⟨m2, hm2⟩
          have hq2 : Q wa w2 := by rw [hm2]; exact m2.le
          have HN : Hid (Q w w2) := Lib.hid (HI.out.1.trans hq2)
          clear m2 hm2 ca cb hq2
          go_wp2_with fail
          go_ret
          exact ⟨by rw [HE2.out]; rfl, HN.out⟩
      · have hd : decide (k < ns.length) = false := by simpa using hk2
        obtain rfl : k = ns.length := by omega
        have HE2 : Hid (E = true) := Lib.hid (by
          have := HI.out.2
          rw [List.take_length, List.take_of_length_le (by rw [HL.out]; exact Nat.le_refl _)] at this
          rw [← HE.out, beq_iff_eq]; exact this)
        have HN := Lib.hid HI.out.1
        go_wp2_with fail
        go_ret
        exact ⟨by rw [HE2.out]; rfl, HN.out⟩
  · have g1 : (((ns.length : Int)) != (ms.length : Int)) = true := by simp; omega
    have HE : Hid ((ns == ms) = false) := Lib.hid (by
      rw [beq_eq_false_iff_ne]; intro e; exact hl (by rw [e]))
    clear hl
    go_enter Tryd.func78, Tryd.ntmps78
    go_wp2_with fail
    go_ret
    exact ⟨by rw [HE.out]; rfl, Q.refl w⟩
end Go.Proofs.YtlhhiiemojhjdaaDoor
set_option linter.unusedVariables false
set_option linter.unusedSimpArgs false
namespace Go.Proofs.YtlhhiiemojhjdaaDoor
open Go Go.RowKit
def SameKids (ks ms : List JsonD) (w : World) : Prop := ∀ i, i < ks.length → ∀ W vn vk un uk, Q w W → JV W (gK ks i) vn vk → JV W (gK ms i) un uk →
  Calls Tryd.prog 49 #[.agg (cellJ (gK ks i) vn vk).toArray, .agg (cellJ (gK ms i) un uk).toArray] W fun e w' => e = .returned (.bool (eqJ (gK ks i) (gK ms i))) ∧ Q W w'
structure KidAt (w : World) (ks : List JsonD) (A : Option Addr) (i g off : Nat) (vn vk : Value) : Prop where
  a : A = some ⟨g, off, none⟩
  rg : w.rangeAt g (off + i * 4) (cellJ (gK ks i) vn vk)
  jv : JV w (gK ks i) vn vk
theorem JV.kidAt {w : World} {k : Int} {t : Txt} {ns : List Txt} {ks : List JsonD} {vn vk : Value} (h : JV w (.mk k t ns ks) vn vk) : ∃ A c, vk = .slice A ks.length c ∧ ks.length ≤ c ∧ c ≤ 9223372036854775807 ∧ ∀ i, i < ks.length → ∃ g off un uk, KidAt w ks A i g off un uk := by
  obtain ⟨A, c, e, h1, h2, h3⟩ := h.kid
  refine ⟨A, c, e, h1, h2, fun i hi => ?_⟩
  obtain ⟨g, off, un, uk, e1, y0, y1, y2, y3, yv⟩ := h3 i hi
  refine ⟨g, off, un, uk, e1, fun j u hu => ?_, yv⟩
  match j, hu with
  | 0, hu => injection hu with hu; subst hu; exact y0
  | 1, hu => injection hu with hu; subst hu; exact y1
  | 2, hu => injection hu with hu; subst hu; exact y2
  | 3, hu => injection hu with hu; subst hu; exact y3
  | n + 4, hu => simp [cellJ, jsonC] at hu
theorem KidAt.q {w w' : World} {ks : List JsonD} {A : Option Addr} {i g off : Nat} {vn vk : Value} (h : KidAt w ks A i g off vn vk) (hq : Q w w') : KidAt w' ks A i g off vn vk :=
  ⟨h.a, fun j u hu => hq.cell (h.rg j u hu), h.jv.q hq⟩
theorem KidAt.one {w : World} {ks : List JsonD} {A : Option Addr} {i g off : Nat} {vn vk : Value} (h : KidAt w ks A i g off vn vk) : (cellJ (gK ks i) vn vk).toArray.all (·.oneCell') = true := by
  obtain ⟨⟨_, _, _, f1⟩, ⟨_, _, _, f2⟩⟩ := jv_slices h.jv
  exact cellJ_one ⟨_, _, _, f1⟩ ⟨_, _, _, f2⟩
theorem eqKs_take {ks ms : List JsonD} (hl : ks.length = ms.length) {i : Nat} (hi : i < ks.length) (h : ks.take i = ms.take i) (he : eqJ (gK ks i) (gK ms i) = true) : ks.take (i + 1) = ms.take (i + 1) := by
  rw [gK_take ks i hi, gK_take ms i (by omega), h, (eqJ_iff _ _).1 he]
theorem eqKs_no {ks ms : List JsonD} {i : Nat} (he : eqJ (gK ks i) (gK ms i) = false) : eqKs ks ms = false := by
  rw [Bool.eq_false_iff]
  intro e
  rw [(eqKs_iff ks ms).1 e, (eqJ_iff _ _).2 rfl] at he
  cases he
set_option maxRecDepth 100000 in
theorem equal_kids (ks ms : List JsonD) (w : World) (A B : Option Addr) (c d : Nat) (hl : ks.length = ms.length) (hn : ks.length ≤ 9223372036854775807) (h1 : ∀ i, i < ks.length → ∃ g off un uk, KidAt w ks A i g off un uk) (h2 : ∀ i, i < ms.length → ∃ g off un uk, KidAt w ms B i g off un uk)
    (hc : ks.length ≤ c) (hd : ms.length ≤ d) (IH : SameKids ks ms w) :
    Calls Tryd.prog 79 #[.slice A ks.length c, .slice B ms.length d, .func (.func 49) #[] #[]] w fun e w' => e = .returned (.bool (eqKs ks ms)) ∧ Q w w' := by
  have H1 := Lib.hid h1
  have H2 := Lib.hid h2
  have HIH := Lib.hid IH
  have HL := Lib.hid hl
  have g1 : (((ks.length : Int)) != (ms.length : Int)) = false := by simp; omega
  obtain ⟨E, hE⟩ : ∃ E, eqKs ks ms = E := ⟨_, rfl⟩
  rw [hE]
  have HE := Lib.hid hE
  obtain ⟨ml, hml⟩ : ∃ ml, ms.length = ml := ⟨_, rfl⟩
  have HML := Lib.hid hml
  rw [hml] at g1 hd
  rw [hml]
  have hlt : ∀ k, k < ks.length → k < ml := fun k hk => by omega
  clear hE hl hml h1 h2 IH
  go_enter Tryd.func79, Tryd.ntmps79
  go_wp2_with fail
  clear g1
  go_loopw [17] (fun i wx => ∃ k : Nat, k ≤ ks.length ∧ i = .int .i64 k ∧ Hid (Q w wx ∧ ks.take k = ms.take k)) (fun i _ => ks.length - (intOf i).toNat)
  case atStart => exact ⟨0, by omega, rfl, Lib.hid ⟨Q.refl w, rfl⟩⟩
  case round =>
    obtain ⟨k, hk, rfl, HI⟩ := hrel
    rename World => wa
    by_cases hk2 : k < ks.length
    · have hd1 : decide (k < ks.length) = true := by simpa using hk2
      have hk3 : k < ml := hlt k hk2
      have hd3 : decide (k < ml) = true := by simpa using hk3
      obtain ⟨g, off, vn, vk, hA⟩ := H1.out k hk2
      obtain ⟨g', off', un, uk, hB⟩ := H2.out k (by rw [HML.out]; exact hk3)
      obtain rfl := hA.a
      obtain rfl := hB.a
      have HA := Lib.hid (hA.q HI.out.1)
      have HB := Lib.hid (hB.q HI.out.1)
      have HCall := Lib.hid (fun W (hq : Q wa W) => HIH.out k hk2 W vn vk un uk (HI.out.1.trans hq) (HA.out.q hq).jv (HB.out.q hq).jv)
      have HIn := Lib.hid (info_sz (gK ks k) vn vk)
      have HIn2 := Lib.hid (info_sz (gK ms k) un uk)
      have HOne := Lib.hid hA.one
      have HOne2 := Lib.hid hB.one
      clear hA hB
      go_upto_region 5 with (fail)
      iterate 7 go_step
      refine wpList_load_mid rfl 40 (.tmp 20) rfl g (off + k * 4) rfl (cellJ (gK ks k) vn vk) _ HA.out.rg Tryd.underlying40 rfl HIn.out ?_
      simp only [Act.put, List.setIfInBounds_toArray, List.set_cons_succ, List.set_cons_zero]
      go_upto_region 6 with (refine wpList_store_row rfl 40 (.tmp 8) (.tmp 21) rfl wa.heap.size (cellJ (gK ks k) vn vk).toArray rfl rfl 40 _ (heap_alloc_new wa _) HIn.out rfl HOne.out ?_)
      simp only [Act.put]
      have HB3 : Hid (((wa.alloc (.cells #[.int .i64 0, .string ⟨#[]⟩, .slice none 0 0, .slice none 0 0] 40)).setRow wa.heap.size (cellJ (gK ks k) vn vk).toArray).heap[wa.heap.size]? = some (.cells (cellJ (gK ks k) vn vk).toArray 40 (0, 0))) := Lib.hid (setRow_at (heap_alloc_new wa _) _)
      have HQ3 : Hid (Q wa ((wa.alloc (.cells #[.int .i64 0, .string ⟨#[]⟩, .slice none 0 0, .slice none 0 0] 40)).setRow wa.heap.size (cellJ (gK ks k) vn vk).toArray)) := Lib.hid (((Q.refl wa).alloc _).setRow (Nat.le_refl _) _)
      obtain ⟨N3, hN3⟩ : ∃ N3, wa.heap.size = N3 := ⟨_, rfl⟩
      obtain ⟨W3, hW3⟩ : ∃ W3, (wa.alloc (.cells #[.int .i64 0, .string ⟨#[]⟩, .slice none 0 0, .slice none 0 0] 40)).setRow N3 (cellJ (gK ks k) vn vk).toArray = W3 := ⟨_, rfl⟩
      rw [hN3, hW3] at HB3 HQ3
      rw [hN3, hW3]
      clear hN3 hW3
      iterate 10 go_step
      refine wpList_load_mid rfl 40 (.tmp 24) rfl g' (off' + k * 4) rfl (cellJ (gK ms k) un uk) _ (HB.out.q HQ3.out).rg Tryd.underlying40 rfl HIn2.out ?_
      simp only [Act.put, List.setIfInBounds_toArray, List.set_cons_succ, List.set_cons_zero]
      go_upto_region 7 with (refine wpList_store_row rfl 40 (.tmp 9) (.tmp 25) rfl W3.heap.size (cellJ (gK ms k) un uk).toArray rfl rfl 40 _ (heap_alloc_new W3 _) HIn2.out rfl HOne2.out ?_)
      simp only [Act.put]
      have HB4 : Hid (((W3.alloc (.cells #[.int .i64 0, .string ⟨#[]⟩, .slice none 0 0, .slice none 0 0] 40)).setRow W3.heap.size (cellJ (gK ms k) un uk).toArray).heap[W3.heap.size]? = some (.cells (cellJ (gK ms k) un uk).toArray 40 (0, 0))) := Lib.hid (setRow_at (heap_alloc_new W3 _) _)
      have HQ4 : Hid (Q W3 ((W3.alloc (.cells #[.int .i64 0, .string ⟨#[]⟩, .slice none 0 0, .slice none 0 0] 40)).setRow W3.heap.size (cellJ (gK ms k) un uk).toArray)) := Lib.hid (((Q.refl W3).alloc _).setRow (Nat.le_refl _) _)
      obtain ⟨N4, hN4⟩ : ∃ N4, W3.heap.size = N4 := ⟨_, rfl⟩
      obtain ⟨W4, hW4⟩ : ∃ W4, (W3.alloc (.cells #[.int .i64 0, .string ⟨#[]⟩, .slice none 0 0, .slice none 0 0] 40)).setRow N4 (cellJ (gK ms k) un uk).toArray = W4 := ⟨_, rfl⟩
      rw [hN4, hW4] at HB4 HQ4
      rw [hN4, hW4]
      clear hN4 hW4
      have HB5 := Lib.hid (HQ4.out.block HB3.out)
      have HCl := Lib.hid (HCall.out W4 (HQ3.out.trans HQ4.out))
      iterate 4 go_step
      refine wpList_load_row rfl 40 (.tmp 8) rfl N3 rfl 40 (cellJ (gK ks k) vn vk).toArray (0, 0) _ HB5.out Tryd.underlying40 rfl HIn.out ?_
      simp only [Act.put, List.setIfInBounds_toArray, List.set_cons_succ, List.set_cons_zero]
      refine wpList_load_row rfl 40 (.tmp 9) rfl N4 rfl 40 (cellJ (gK ms k) un uk).toArray (0, 0) _ HB4.out Tryd.underlying40 rfl HIn2.out ?_
      simp only [Act.put, List.setIfInBounds_toArray, List.set_cons_succ, List.set_cons_zero]
      obtain ⟨r, hr⟩ : ∃ r, eqJ (gK ks k) (gK ms k) = r := ⟨_, rfl⟩
      have HR := Lib.hid hr
      rw [hr] at HCl
      clear hr HCall
      go_wp2_with fail
      refine HCl.out.mono ?_
      rintro e w5 ⟨rfl, hq5⟩
      have HQ5 := Lib.hid (((HI.out.1.trans HQ3.out).trans HQ4.out).trans hq5)
      clear hq5 HCl
      cases r with
      | false =>
        have HE2 : Hid (E = false) := Lib.hid (by rw [← HE.out]; exact eqKs_no HR.out)
        go_wp2_with fail
        go_ret
        exact ⟨by rw [HE2.out]; rfl, HQ5.out⟩
      | true =>
        have HN : Hid (Q w w5 ∧ ks.take (k + 1) = ms.take (k + 1)) := Lib.hid ⟨HQ5.out, eqKs_take HL.out hk2 HI.out.2 HR.out⟩
        go_wp2_with fail
        go_roundw
        case rel => exact ⟨k + 1, by omega, by go_num, HN⟩
        case measure => simp [intOf]; omega
    · have hd1 : decide (k < ks.length) = false := by simpa using hk2
      obtain rfl : k = ks.length := by omega
      have HE2 : Hid (E = true) := Lib.hid (by
        have := HI.out.2
        rw [List.take_length, List.take_of_length_le (by rw [HL.out]; exact Nat.le_refl _)] at this
        rw [← HE.out]; exact (eqKs_iff _ _).2 this)
      have HN := Lib.hid HI.out.1
      go_wp2_with fail
      go_ret
      exact ⟨by rw [HE2.out]; rfl, HN.out⟩
theorem equal_len {ks ms : List JsonD} (hl : ks.length ≠ ms.length) (w : World) (A B : Option Addr) (c d : Nat) :
    Calls Tryd.prog 79 #[.slice A ks.length c, .slice B ms.length d, .func (.func 49) #[] #[]] w fun e w' => e = .returned (.bool (eqKs ks ms)) ∧ Q w w' := by
  have g1 : (((ks.length : Int)) != (ms.length : Int)) = true := by simp; omega
  have HE : Hid (eqKs ks ms = false) := Lib.hid (by
    rw [Bool.eq_false_iff]; intro e; exact hl (by rw [(eqKs_iff ks ms).1 e]))
  clear hl
  go_enter Tryd.func79, Tryd.ntmps79
  go_wp2_with fail
  go_ret
  exact ⟨by rw [HE.out]; rfl, Q.refl w⟩
end Go.Proofs.YtlhhiiemojhjdaaDoor
set_option linter.unusedVariables false
set_option linter.unusedSimpArgs false
namespace Go.Proofs.YtlhhiiemojhjdaaDoor
open Go Go.RowKit
theorem gK_sub {ks : List JsonD} {n : Nat} (h : cntKs ks + 1 ≤ n + 1) {i : Nat} (hi : i < ks.length) : cntJ (gK ks i) ≤ n := by
  have := cnt_gK hi
  omega
set_option maxRecDepth 100000 in
theorem same_all : ∀ (n : Nat) (a b : JsonD), cntJ a ≤ n → ∀ (w : World) (vn vk un uk : Value), JV w a vn vk → JV w b un uk →
    Calls Tryd.prog 49 #[.agg (cellJ a vn vk).toArray, .agg (cellJ b un uk).toArray] w fun e w' => e = .returned (.bool (eqJ a b)) ∧ Q w w'
  | 0, a, b, hn, _, _, _, _, _, _, _ => absurd hn (by have := cnt_pos a; omega)
  | n + 1, .mk k t ns ks, .mk k' t' ns' ks', hn, w, vn, vk, un, uk, ha, hb => by
    rw [cntJ] at hn
    obtain ⟨A, c, e1, hc1, hc2, hk1⟩ := ha.kidAt
    obtain ⟨B, d, e2, hd1, hd2, hk2⟩ := hb.kidAt
    rw [JV] at ha hb
    have hna := ha.1
    have hnb := hb.1
    have IH : SameKids ks ks' w := fun i hi W x1 x2 y1 y2 _ h1 h2 => same_all n _ _ (gK_sub hn hi) W x1 x2 y1 y2 h1 h2
    have HNm := Lib.hid (fun W (hq : Q w W) => equal_names ns ns' W vn un (hna.mono (fun _ _ => hq.cell)) (hnb.mono (fun _ _ => hq.cell)))
    subst e1 e2
    have HKd : Hid (∀ W, Q w W → Calls Tryd.prog 79 #[.slice A ks.length c, .slice B ks'.length d, .func (.func 49) #[] #[]] W fun e w' => e = .returned (.bool (eqKs ks ks')) ∧ Q W w') := Lib.hid (fun W hq => by
      by_cases hl : ks.length = ks'.length
      · exact equal_kids ks ks' W A B c d hl (by omega) (fun i hi => by
          obtain ⟨g, off, x, y, h⟩ := hk1 i hi
          exact ⟨g, off, x, y, h.q hq⟩) (fun i hi => by
          obtain ⟨g, off, x, y, h⟩ := hk2 i hi
          exact ⟨g, off, x, y, h.q hq⟩) hc1 hd1 (fun i hi W' x1 x2 y1 y2 hq' h1 h2 => IH i hi W' x1 x2 y1 y2 (hq.trans hq') h1 h2)
      · exact equal_len hl W A B c d)
    obtain ⟨A1, c1, rfl, _⟩ := hna.at
    obtain ⟨B1, d1, rfl, _⟩ := hnb.at
    have HE : Hid (eqJ (.mk k t ns ks) (.mk k' t' ns' ks') = (decide (k = k') && ((t == t') && ((ns == ns') && eqKs ks ks')))) := Lib.hid (by rw [eqJ])
    obtain ⟨E, hE⟩ : ∃ E, eqJ (.mk k t ns ks) (.mk k' t' ns' ks') = E := ⟨_, rfl⟩
    rw [hE] at HE
    rw [hE]
    clear ha hb hna hnb IH hk1 hk2 hE hn
    by_cases hk : k = k'
    · have g1 : (k == k') = true := by simpa using hk
      by_cases ht : t = t'
      · have g2 : (t == t') = true := by simpa using ht
        have HE2 : Hid (E = ((ns == ns') && eqKs ks ks')) := Lib.hid (by rw [HE.out]; simp [hk, ht])
        obtain ⟨N, hN⟩ : ∃ N, (ns == ns') = N := ⟨_, rfl⟩
        obtain ⟨Ks, hKs⟩ : ∃ Ks, eqKs ks ks' = Ks := ⟨_, rfl⟩
        rw [hN, hKs] at HE2
        rw [hN] at HNm
        rw [hKs] at HKd
        clear hk ht hN hKs HE
        go_enter Tryd.func49, Tryd.ntmps49
        go_upto_region 1 with (fail)
        have e1 := heap_alloc_new w (.cells (cellJ (.mk k t ns ks) (.slice A1 ns.length c1) (.slice A ks.length c)).toArray 40)
        have q1 : Q w (w.alloc (.cells (cellJ (.mk k t ns ks) (.slice A1 ns.length c1) (.slice A ks.length c)).toArray 40)) := (Q.refl w).alloc _
        have s1 : (w.alloc (.cells (cellJ (.mk k t ns ks) (.slice A1 ns.length c1) (.slice A ks.length c)).toArray 40)).heap.size = w.heap.size + 1 := by simp
        obtain ⟨W1, hW1⟩ : ∃ W1, w.alloc (.cells (cellJ (.mk k t ns ks) (.slice A1 ns.length c1) (.slice A ks.length c)).toArray 40) = W1 := ⟨_, rfl⟩
        rw [hW1] at e1 q1 s1
        rw [hW1]
        have e2 := heap_alloc_new W1 (.cells (cellJ (.mk k' t' ns' ks') (.slice B1 ns'.length d1) (.slice B ks'.length d)).toArray 40)
        have q2 : Q W1 (W1.alloc (.cells (cellJ (.mk k' t' ns' ks') (.slice B1 ns'.length d1) (.slice B ks'.length d)).toArray 40)) := (Q.refl W1).alloc _
        rw [s1] at e2
        obtain ⟨W2, hW2⟩ : ∃ W2, W1.alloc (.cells (cellJ (.mk k' t' ns' ks') (.slice B1 ns'.length d1) (.slice B ks'.length d)).toArray 40) = W2 := ⟨_, rfl⟩
        rw [hW2] at e2 q2
        rw [hW2]
        have HB1 := Lib.hid (q2.block e1)
        have HB2 := Lib.hid e2
        have HQ2 := Lib.hid (q1.trans q2)
        obtain ⟨R1, hR1⟩ : ∃ R, w.heap.size = R := ⟨_, rfl⟩
        rw [hR1] at HB1 HB2
        rw [hR1]
        clear e1 e2 q1 q2 s1 hW1 hW2 hR1
        have x0 : W2.cell? ⟨R1, 0, none⟩ = some (.int .i64 k) := by rw [cell_of_row _ _ _ _ _ _ HB1.out]; rfl
        have x1 : W2.cell? ⟨R1, 1, none⟩ = some (.string ⟨t.toArray⟩) := by rw [cell_of_row _ _ _ _ _ _ HB1.out]; rfl
        have x2 : W2.cell? ⟨R1, 2, none⟩ = some (.slice A1 ns.length c1) := by rw [cell_of_row _ _ _ _ _ _ HB1.out]; rfl
        have y0 : W2.cell? ⟨R1 + 1, 0, none⟩ = some (.int .i64 k') := by rw [cell_of_row _ _ _ _ _ _ HB2.out]; rfl
        have y1 : W2.cell? ⟨R1 + 1, 1, none⟩ = some (.string ⟨t'.toArray⟩) := by rw [cell_of_row _ _ _ _ _ _ HB2.out]; rfl
        have y2 : W2.cell? ⟨R1 + 1, 2, none⟩ = some (.slice B1 ns'.length d1) := by rw [cell_of_row _ _ _ _ _ _ HB2.out]; rfl
        go_wp2_with fail
        refine (HNm.out _ HQ2.out).mono ?_
        rintro e w3 ⟨rfl, hq3⟩
        have HQ3 := Lib.hid (HQ2.out.trans hq3)
        have x3 : w3.cell? ⟨R1, 3, none⟩ = some (.slice A ks.length c) := by rw [cell_of_row _ _ _ _ _ _ (hq3.block HB1.out)]; rfl
        have y3 : w3.cell? ⟨R1 + 1, 3, none⟩ = some (.slice B ks'.length d) := by rw [cell_of_row _ _ _ _ _ _ (hq3.block HB2.out)]; rfl
        clear hq3 x0 x1 x2 y0 y1 y2
        cases N with
        | false =>
          have HE3 : Hid (E = false) := Lib.hid (by rw [HE2.out]; rfl)
          go_wp2_with fail
          go_ret
          exact ⟨by rw [HE3.out]; rfl, HQ3.out⟩
        | true =>
          have HE3 : Hid (E = Ks) := Lib.hid (by rw [HE2.out]; rfl)
          go_wp2_with fail
          refine (HKd.out _ HQ3.out).mono ?_
          rintro e w4 ⟨rfl, hq4⟩
          have HQ4 := Lib.hid (HQ3.out.trans hq4)
          clear hq4
          go_wp2_with fail
          go_ret
          exact ⟨by rw [HE3.out]; rfl, HQ4.out⟩
      · have g2 : (t == t') = false := by simpa using ht
        have HE2 : Hid (E = false) := Lib.hid (by rw [HE.out]; simp [ht])
        clear hk ht HE
        go_enter Tryd.func49, Tryd.ntmps49
        go_upto_region 1 with (fail)
        have e1 := heap_alloc_new w (.cells (cellJ (.mk k t ns ks) (.slice A1 ns.length c1) (.slice A ks.length c)).toArray 40)
        have q1 : Q w (w.alloc (.cells (cellJ (.mk k t ns ks) (.slice A1 ns.length c1) (.slice A ks.length c)).toArray 40)) := (Q.refl w).alloc _
        have s1 : (w.alloc (.cells (cellJ (.mk k t ns ks) (.slice A1 ns.length c1) (.slice A ks.length c)).toArray 40)).heap.size = w.heap.size + 1 := by simp
        obtain ⟨W1, hW1⟩ : ∃ W1, w.alloc (.cells (cellJ (.mk k t ns ks) (.slice A1 ns.length c1) (.slice A ks.length c)).toArray 40) = W1 := ⟨_, rfl⟩
        rw [hW1] at e1 q1 s1
        rw [hW1]
        have e2 := heap_alloc_new W1 (.cells (cellJ (.mk k' t' ns' ks') (.slice B1 ns'.length d1) (.slice B ks'.length d)).toArray 40)
        have q2 : Q W1 (W1.alloc (.cells (cellJ (.mk k' t' ns' ks') (.slice B1 ns'.length d1) (.slice B ks'.length d)).toArray 40)) := (Q.refl W1).alloc _
        rw [s1] at e2
        obtain ⟨W2, hW2⟩ : ∃ W2, W1.alloc (.cells (cellJ (.mk k' t' ns' ks') (.slice B1 ns'.length d1) (.slice B ks'.length d)).toArray 40) = W2 := ⟨_, rfl⟩
        rw [hW2] at e2 q2
        rw [hW2]
        have HB1 := Lib.hid (q2.block e1)
        have HB2 := Lib.hid e2
        have HQ2 := Lib.hid (q1.trans q2)
        obtain ⟨R1, hR1⟩ : ∃ R, w.heap.size = R := ⟨_, rfl⟩
        rw [hR1] at HB1 HB2
        rw [hR1]
        clear e1 e2 q1 q2 s1 hW1 hW2 hR1
        have x0 : W2.cell? ⟨R1, 0, none⟩ = some (.int .i64 k) := by rw [cell_of_row _ _ _ _ _ _ HB1.out]; rfl
        have x1 : W2.cell? ⟨R1, 1, none⟩ = some (.string ⟨t.toArray⟩) := by rw [cell_of_row _ _ _ _ _ _ HB1.out]; rfl
        have x2 : W2.cell? ⟨R1, 2, none⟩ = some (.slice A1 ns.length c1) := by rw [cell_of_row _ _ _ _ _ _ HB1.out]; rfl
        have y0 : W2.cell? ⟨R1 + 1, 0, none⟩ = some (.int .i64 k') := by rw [cell_of_row _ _ _ _ _ _ HB2.out]; rfl
        have y1 : W2.cell? ⟨R1 + 1, 1, none⟩ = some (.string ⟨t'.toArray⟩) := by rw [cell_of_row _ _ _ _ _ _ HB2.out]; rfl
        have y2 : W2.cell? ⟨R1 + 1, 2, none⟩ = some (.slice B1 ns'.length d1) := by rw [cell_of_row _ _ _ _ _ _ HB2.out]; rfl
        go_wp2_with fail
        go_ret
        exact ⟨by rw [HE2.out]; rfl, HQ2.out⟩
    · have g1 : (k == k') = false := by simpa using hk
      have HE2 : Hid (E = false) := Lib.hid (by rw [HE.out]; simp [hk])
      clear hk HE
      go_enter Tryd.func49, Tryd.ntmps49
      go_upto_region 1 with (fail)
      have e1 := heap_alloc_new w (.cells (cellJ (.mk k t ns ks) (.slice A1 ns.length c1) (.slice A ks.length c)).toArray 40)
      have q1 : Q w (w.alloc (.cells (cellJ (.mk k t ns ks) (.slice A1 ns.length c1) (.slice A ks.length c)).toArray 40)) := (Q.refl w).alloc _
      have s1 : (w.alloc (.cells (cellJ (.mk k t ns ks) (.slice A1 ns.length c1) (.slice A ks.length c)).toArray 40)).heap.size = w.heap.size + 1 := by simp
      obtain ⟨W1, hW1⟩ : ∃ W1, w.alloc (.cells (cellJ (.mk k t ns ks) (.slice A1 ns.length c1) (.slice A ks.length c)).toArray 40) = W1 := ⟨_, rfl⟩
      rw [hW1] at e1 q1 s1
      rw [hW1]
      have e2 := heap_alloc_new W1 (.cells (cellJ (.mk k' t' ns' ks') (.slice B1 ns'.length d1) (.slice B ks'.length d)).toArray 40)
      have q2 : Q W1 (W1.alloc (.cells (cellJ (.mk k' t' ns' ks') (.slice B1 ns'.length d1) (.slice B ks'.length d)).toArray 40)) := (Q.refl W1).alloc _
      rw [s1] at e2
      obtain ⟨W2, hW2⟩ : ∃ W2, W1.alloc (.cells (cellJ (.mk k' t' ns' ks') (.slice B1 ns'.length d1) (.slice B ks'.length d)).toArray 40) = W2 := ⟨_, rfl⟩
      rw [hW2] at e2 q2
      rw [hW2]
      have HB1 := Lib.hid (q2.block e1)
      have HB2 := Lib.hid e2
      have HQ2 := Lib.hid (q1.trans q2)
      obtain ⟨R1, hR1⟩ : ∃ R, w.heap.size = R := ⟨_, rfl⟩
      rw [hR1] at HB1 HB2
      rw [hR1]
      clear e1 e2 q1 q2 s1 hW1 hW2 hR1
      have x0 : W2.cell? ⟨R1, 0, none⟩ = some (.int .i64 k) := by rw [cell_of_row _ _ _ _ _ _ HB1.out]; rfl
      have x1 : W2.cell? ⟨R1, 1, none⟩ = some (.string ⟨t.toArray⟩) := by rw [cell_of_row _ _ _ _ _ _ HB1.out]; rfl
      have x2 : W2.cell? ⟨R1, 2, none⟩ = some (.slice A1 ns.length c1) := by rw [cell_of_row _ _ _ _ _ _ HB1.out]; rfl
      have y0 : W2.cell? ⟨R1 + 1, 0, none⟩ = some (.int .i64 k') := by rw [cell_of_row _ _ _ _ _ _ HB2.out]; rfl
      have y1 : W2.cell? ⟨R1 + 1, 1, none⟩ = some (.string ⟨t'.toArray⟩) := by rw [cell_of_row _ _ _ _ _ _ HB2.out]; rfl
      have y2 : W2.cell? ⟨R1 + 1, 2, none⟩ = some (.slice B1 ns'.length d1) := by rw [cell_of_row _ _ _ _ _ _ HB2.out]; rfl
      go_wp2_with fail
      go_ret
      exact ⟨by rw [HE2.out]; rfl, HQ2.out⟩
def sameF (a b : JsonD) : Bool := rtB a 20 8000 && (rtB b 20 8000 && eqJ a b)
set_option maxRecDepth 100000 in
theorem Same_any (a b : JsonD) (w : World) (vn vk un uk : Value) (ha : JV w a vn vk) (hb : JV w b un uk) (hu : UT w) (ba : bigJ 9223372036854775807 a) (bb : bigJ 9223372036854775807 b) :
    Calls Tryd.prog 22 #[.agg (cellJ a vn vk).toArray, .agg (cellJ b un uk).toArray] w fun e w' => e = .returned (.bool (sameF a b)) ∧ Q w w' := by
  obtain ⟨k, t, ns, ks⟩ := a
  obtain ⟨k', t', ns', ks'⟩ := b
  have HC1 := Lib.hid (fun W (hq : Q w W) => isRight_any (.mk k t ns ks) W vn vk (ha.q hq) (Utf8Tabs_below hu hq) ba)
  have HC2 := Lib.hid (fun W (hq : Q w W) => isRight_any (.mk k' t' ns' ks') W un uk (hb.q hq) (Utf8Tabs_below hu hq) bb)
  have HC3 := Lib.hid (fun W (hq : Q w W) => same_all _ (.mk k t ns ks) (.mk k' t' ns' ks') (Nat.le_refl _) W vn vk un uk (ha.q hq) (hb.q hq))
  obtain ⟨⟨A1, c1, rfl, _⟩, A, c, rfl, _⟩ := jv_form ha
  obtain ⟨⟨B1, d1, rfl, _⟩, B, d, rfl, _⟩ := jv_form hb
  obtain ⟨E, hE⟩ : ∃ E, sameF (.mk k t ns ks) (.mk k' t' ns' ks') = E := ⟨_, rfl⟩
  have hE2 : E = (rtB (.mk k t ns ks) 20 8000 && (rtB (.mk k' t' ns' ks') 20 8000 && eqJ (.mk k t ns ks) (.mk k' t' ns' ks'))) := hE.symm
  obtain ⟨p, hp⟩ : ∃ p, rtB (.mk k t ns ks) 20 8000 = p := ⟨_, rfl⟩
  obtain ⟨q, hq⟩ : ∃ q, rtB (.mk k' t' ns' ks') 20 8000 = q := ⟨_, rfl⟩
  obtain ⟨r, hr⟩ : ∃ r, eqJ (.mk k t ns ks) (.mk k' t' ns' ks') = r := ⟨_, rfl⟩
  rw [hp] at HC1
  rw [hq] at HC2
  rw [hr] at HC3
  rw [hp, hq, hr] at hE2
  rw [hE]
  have HE := Lib.hid hE2
  clear ha hb hu ba bb hp hq hr hE hE2
  go_enter Tryd.func22, Tryd.ntmps22
  go_upto_region 1 with (fail)
  have e1 := heap_alloc_new w (.cells (cellJ (.mk k t ns ks) (.slice A1 ns.length c1) (.slice A ks.length c)).toArray 40)
  have q1 : Q w (w.alloc (.cells (cellJ (.mk k t ns ks) (.slice A1 ns.length c1) (.slice A ks.length c)).toArray 40)) := (Q.refl w).alloc _
  have s1 : (w.alloc (.cells (cellJ (.mk k t ns ks) (.slice A1 ns.length c1) (.slice A ks.length c)).toArray 40)).heap.size = w.heap.size + 1 := by simp
  obtain ⟨W1, hW1⟩ : ∃ W1, w.alloc (.cells (cellJ (.mk k t ns ks) (.slice A1 ns.length c1) (.slice A ks.length c)).toArray 40) = W1 := ⟨_, rfl⟩
  rw [hW1] at e1 q1 s1
  rw [hW1]
  have e2 := heap_alloc_new W1 (.cells (cellJ (.mk k' t' ns' ks') (.slice B1 ns'.length d1) (.slice B ks'.length d)).toArray 40)
  have q2 : Q W1 (W1.alloc (.cells (cellJ (.mk k' t' ns' ks') (.slice B1 ns'.length d1) (.slice B ks'.length d)).toArray 40)) := (Q.refl W1).alloc _
  rw [s1] at e2
  obtain ⟨W2, hW2⟩ : ∃ W2, W1.alloc (.cells (cellJ (.mk k' t' ns' ks') (.slice B1 ns'.length d1) (.slice B ks'.length d)).toArray 40) = W2 := ⟨_, rfl⟩
  rw [hW2] at e2 q2
  rw [hW2]
  have HB1 := Lib.hid (q2.block e1)
  have HB2 := Lib.hid e2
  have HQ2 := Lib.hid (q1.trans q2)
  obtain ⟨R1, hR1⟩ : ∃ R, w.heap.size = R := ⟨_, rfl⟩
  rw [hR1] at HB1 HB2
  rw [hR1]
  clear e1 e2 q1 q2 s1 hW1 hW2 hR1
  have x0 : W2.cell? ⟨R1, 0, none⟩ = some (.int .i64 k) := by rw [cell_of_row _ _ _ _ _ _ HB1.out]; rfl
  have x1 : W2.cell? ⟨R1, 1, none⟩ = some (.string ⟨t.toArray⟩) := by rw [cell_of_row _ _ _ _ _ _ HB1.out]; rfl
  have x2 : W2.cell? ⟨R1, 2, none⟩ = some (.slice A1 ns.length c1) := by rw [cell_of_row _ _ _ _ _ _ HB1.out]; rfl
  have y0 : W2.cell? ⟨R1 + 1, 0, none⟩ = some (.int .i64 k') := by rw [cell_of_row _ _ _ _ _ _ HB2.out]; rfl
  have y1 : W2.cell? ⟨R1 + 1, 1, none⟩ = some (.string ⟨t'.toArray⟩) := by rw [cell_of_row _ _ _ _ _ _ HB2.out]; rfl
  have y2 : W2.cell? ⟨R1 + 1, 2, none⟩ = some (.slice B1 ns'.length d1) := by rw [cell_of_row _ _ _ _ _ _ HB2.out]; rfl
  have x3 : W2.cell? ⟨R1, 3, none⟩ = some (.slice A ks.length c) := by rw [cell_of_row _ _ _ _ _ _ HB1.out]; rfl
  have y3 : W2.cell? ⟨R1 + 1, 3, none⟩ = some (.slice B ks'.length d) := by rw [cell_of_row _ _ _ _ _ _ HB2.out]; rfl
  go_wp2_with fail
  refine (HC1.out _ HQ2.out).mono ?_
  rintro e w3 ⟨rfl, hq3⟩
  have HQ3 := Lib.hid (HQ2.out.trans hq3)
  have y0 := hq3.cell y0
  have y1 := hq3.cell y1
  have y2 := hq3.cell y2
  have y3 := hq3.cell y3
  have x0 := hq3.cell x0
  have x1 := hq3.cell x1
  have x2 := hq3.cell x2
  have x3 := hq3.cell x3
  clear hq3
  cases p with
  | false =>
    have HE3 : Hid (E = false) := Lib.hid (by rw [HE.out]; rfl)
    go_wp2_with fail
    go_ret
    exact ⟨by rw [HE3.out]; rfl, HQ3.out⟩
  | true =>
    go_wp2_with fail
    refine (HC2.out _ HQ3.out).mono ?_
    rintro e w4 ⟨rfl, hq4⟩
    have HQ4 := Lib.hid (HQ3.out.trans hq4)
    have y0 := hq4.cell y0
    have y1 := hq4.cell y1
    have y2 := hq4.cell y2
    have y3 := hq4.cell y3
    have x0 := hq4.cell x0
    have x1 := hq4.cell x1
    have x2 := hq4.cell x2
    have x3 := hq4.cell x3
    clear hq4
    cases q with
    | false =>
      have HE3 : Hid (E = false) := Lib.hid (by rw [HE.out]; rfl)
      go_wp2_with fail
      go_ret
      exact ⟨by rw [HE3.out]; rfl, HQ4.out⟩
    | true =>
      have HE3 : Hid (E = r) := Lib.hid (by rw [HE.out]; rfl)
      go_wp2_with fail
      refine (HC3.out _ HQ4.out).mono ?_
      rintro e w5 ⟨rfl, hq5⟩
      have HQ5 := Lib.hid (HQ4.out.trans hq5)
      clear hq5
      go_wp2_with fail
      go_ret
      exact ⟨by rw [HE3.out]; rfl, HQ5.out⟩
end Go.Proofs.YtlhhiiemojhjdaaDoor
set_option linter.unusedVariables false
namespace Go.Proofs.YtlhhiiemojhjdaaDoor
open Go Go.RowKit
theorem wp_plan_A {P : Program} {id : Nat} {R : Exit → Act → World → Prop} {a : Act} {w : World} {l : List Oper} (S : World → Prop) (hS : S w.drew) (ps : List (List Nat × List Nat)) (hm : P.follows .mixedOrders = true)
    (hB : (Region.noSelect l.toArray && planB l.toArray ps (Array.replicate l.length false) && decide (planN ps = l.length)) = true)
    (hQ : ∀ c a d v w, R (.panic c) (Act.put a d v) w → R (.panic c) a w)
    (h : wpPlan P l.toArray R (fun w' => ∃ m : SWA S, w' = m.val) ps a w.drew) : (Code.region id l.toArray true).wp P R a w := by
  simp only [Bool.and_eq_true, decide_eq_true_eq] at hB
  refine wp_region_held (S := fun w' => ∃ m : SWA S, w' = m.val) hm ?_
  have := any_plan hB.1.1 hQ ps (Array.replicate l.length false) a w.drew ⟨⟨w.drew, hS⟩, rfl⟩ hB.1.2 h
  rw [hB.2] at this
  exact this
end Go.Proofs.YtlhhiiemojhjdaaDoor
set_option linter.unusedVariables false
set_option linter.unusedSimpArgs false
namespace Go.Proofs.YtlhhiiemojhjdaaDoor
open Go Go.RowKit
def CloneP (e : TypeId) (size n : Nat) (cells : List Value) (w : World) (en : Ending) (w' : World) : Prop := ∃ v', en = .returned v' ∧ w'.ownsRow w.heap.size e size v' n cells ∧ Q w w' ∧ ∃ A c, v' = .slice A n c
theorem own_zero {w : World} {base g : Nat} {e : TypeId} {size : Nat} (h : w.heap[g]? = some (.cells #[] e (0, 0))) (hb : base ≤ g) : w.ownsRow base e size (.slice (some ⟨g, 0, none⟩) 0 0) 0 [] :=
  ⟨by simp, .inr ⟨g, 0, #[], rfl, hb, h, Nat.le_refl _, Nat.zero_le _, by simp, by simp⟩⟩
theorem row_form' {w : World} {base : Nat} {e : TypeId} {size : Nat} {v : Value} {n : Nat} {xs : List Value} (h : w.ownsRow base e size v n xs) : ∃ A c, v = .slice A n c := by
  rcases h.2 with ⟨hv, h0⟩ | ⟨g, cap, _, hv, _⟩
  · exact ⟨none, 0, by rw [hv, h0]⟩
  · exact ⟨_, _, hv⟩
theorem gL_map (ns : List Txt) (j : Nat) (u : Value) (h : (ns.map strV)[j]? = some u) : j < ns.length ∧ u = .string ⟨(gL ns j).toArray⟩ := by
  have hj := (List.getElem?_eq_some_iff.1 h).1
  rw [List.length_map] at hj
  refine ⟨hj, ?_⟩
  rw [List.getElem?_map, List.getElem?_eq_getElem hj] at h
  injection h with h
  rw [← h]; simp [strV, gL, List.getD, hj]
set_option maxRecDepth 100000 in
theorem clone_names (ns : List Txt) (w : World) (vn : Value) (h : NsV w vn ns) (hl : ns.length ≤ 1000000) : Calls Tryd.prog 80 #[vn] w (CloneP 9 1 ns.length (ns.map strV) w) := by
  obtain ⟨A, c, rfl, h1, h2, h3⟩ := h
  obtain ⟨si, hsi, hz0, hz1, hz2⟩ := info_parts info_str
  have q24 : ∀ (w : World) (a : Option Addr) (n c n' c' : Nat), (binOp .eql 23 (.slice a n c) (.slice none n' c')).run Tryd.prog w = .ok (.bool a.isNone) w := fun w a n c n' c' => Lib.run_eql_slice_nil w 23 9 a n c n' c' Tryd.underlying23
  rcases A with _ | ad
  · have h0 : ns = [] := by
      apply Classical.byContradiction
      intro hne
      obtain ⟨g, off, e, _⟩ := h3 (List.length_pos_iff.2 hne)
      cases e
    subst h0
    clear h1 h2 h3
    go_enter Tryd.func80, Tryd.ntmps80
    go_wp2_with fail
    go_ret
    exact ⟨_, rfl, World.ownsRow_nil _ _ _ _, Q.refl w, _, _, rfl⟩
  · have HN : Hid (∀ W, Q w W → ∀ j u, (ns.map strV)[j]? = some u → W.cell? (ad.add j) = some u) := Lib.hid (fun W hq j u hu => by
      obtain ⟨hj, rfl⟩ := gL_map ns j u hu
      obtain ⟨g, off, e, hc⟩ := h3 (by omega)
      injection e with e
      rw [e, add_off]
      exact hq.cell (hc j hj))
    clear h2 h3
    go_enter Tryd.func80, Tryd.ntmps80
    go_upto_region 3 with (fail)
    have HZ := Lib.hid (own_zero (w := w.alloc (.cells #[] 9)) (base := w.heap.size) (e := 9) (size := 1) (heap_alloc_new w _) (Nat.le_refl _))
    have HNw := Lib.hid (HN.out _ ((Q.refl w).alloc (.cells #[] 9)))
    go_wp2_with (at_builtin; refine wpList_append_own_at (w := w.alloc (.cells #[] 9)) rfl (.tmp 5) (.tmp 6) 23 rfl w.heap.size 9 si _ 1 16 Tryd.underlying23 hsi hz0 hz1 hz2 rfl (by decide) (.slice (some ⟨w.heap.size, 0, none⟩) 0 0) 0 [] rfl HZ.out ad ns.length c (ns.map strV) rfl (by simp) HNw.out (by intro u hu; obtain ⟨x, _, rfl⟩ := List.mem_map.1 hu; rfl) (by unfold maxLen; omega) (by omega) (by simp) ?_)
    intro v' w1 hown hgrow _ hob
    obtain ⟨A', c', hv'⟩ := row_form' hown
    have hx : CloneP 9 1 ns.length (ns.map strV) w (.returned v') w1 := by
      refine ⟨v', rfl, hown, ?_, A', c', hv'⟩
      exact Below.grown ((Q.refl w).alloc _) hgrow (by simp) (fun k hk => by simp [Value.ownBlock] at hk; omega)
    have HX := Lib.hid hx
    clear hown hgrow hob hx
    subst hv'
    go_wp2_with fail
    go_ret
    exact HX.out
theorem JV.cells {w : World} {k : Int} {t : Txt} {ns : List Txt} {ks : List JsonD} {vn vk : Value} (h : JV w (.mk k t ns ks) vn vk) : ∃ A c cells, vk = .slice A ks.length c ∧ JK w ks cells ∧ cells.length = ks.length * 4 ∧ (A = none → ks = []) ∧ ∀ ad, A = some ad → ∀ j u, cells[j]? = some u → w.cell? (ad.add j) = some u := by
  rw [JV] at h
  obtain ⟨_, A, c, e, h1, h2, h3⟩ := h
  by_cases h0 : ks = []
  · subst h0
    exact ⟨A, c, [], e, by rw [JK], rfl, fun _ => rfl, fun ad e j u hu => by cases hu⟩
  · obtain ⟨g, off, cells, e2, h4, h5⟩ := h3 (List.length_pos_iff.2 h0)
    subst e2
    refine ⟨_, c, cells, e, h5, ?_, fun e => (by cases e), fun ad e j u hu => ?_⟩
    · clear e h1 h2 h3 h0 h4
      induction ks generalizing cells with
      | nil => rw [JK] at h5; rw [h5]; rfl
      | cons j r ih =>
        rw [JK] at h5
        obtain ⟨x, y, rest, e, _, h6⟩ := h5
        rw [e, List.length_append, ih rest h6]
        show (jsonC _ _ x y).length + _ = _
        rw [jsonC_len, List.length_cons]; omega
    · injection e with e
      rw [← e, add_off]; exact h4 j u hu
theorem JK.one {w : World} : ∀ {ks : List JsonD} {cells : List Value}, JK w ks cells → ∀ u ∈ cells, u.oneCell' = true
  | [], cells, h, u, hu => by rw [JK] at h; rw [h] at hu; cases hu
  | j :: r, cells, h, u, hu => by
    rw [JK] at h
    obtain ⟨x, y, rest, e, h1, h2⟩ := h
    rw [e] at hu
    rcases List.mem_append.1 hu with hu | hu
    · obtain ⟨⟨_, _, _, rfl⟩, ⟨_, _, _, rfl⟩⟩ := jv_slices h1
      simp [cellJ, jsonC] at hu
      rcases hu with rfl | rfl | rfl | rfl <;> rfl
    · exact JK.one h2 u hu
set_option maxRecDepth 100000 in
theorem clone_kids (ks : List JsonD) (w : World) (A : Option Addr) (c : Nat) (cells : List Value) (hl : ks.length ≤ 1000000) (hcl : cells.length = ks.length * 4) (h0 : A = none → ks = []) (hc : ∀ ad, A = some ad → ∀ j u, cells[j]? = some u → w.cell? (ad.add j) = some u) (h1 : ∀ u ∈ cells, u.oneCell' = true) :
    Calls Tryd.prog 81 #[.slice A ks.length c] w (CloneP 40 4 ks.length cells w) := by
  obtain ⟨ti, hi, hz0, hz1, hz2⟩ := info_parts info_json
  have q24 : ∀ (w : World) (a : Option Addr) (n c n' c' : Nat), (binOp .eql 38 (.slice a n c) (.slice none n' c')).run Tryd.prog w = .ok (.bool a.isNone) w := fun w a n c n' c' => Lib.run_eql_slice_nil w 38 40 a n c n' c' Tryd.underlying38
  rcases A with _ | ad
  · have h0 := h0 rfl
    subst h0
    have hcn : cells = [] := List.eq_nil_of_length_eq_zero (by rw [hcl]; rfl)
    subst hcn
    clear h1 hc
    go_enter Tryd.func81, Tryd.ntmps81
    go_wp2_with fail
    go_ret
    exact ⟨_, rfl, World.ownsRow_nil _ _ _ _, Q.refl w, _, _, rfl⟩
  · have HN : Hid (∀ W, Q w W → ∀ j u, cells[j]? = some u → W.cell? (ad.add j) = some u) := Lib.hid (fun W hq j u hu => hq.cell (hc ad rfl j u hu))
    have H1 := Lib.hid h1
    have HCL := Lib.hid hcl
    clear h1 hc h0 hcl
    go_enter Tryd.func81, Tryd.ntmps81
    go_upto_region 3 with (fail)
    have HZ := Lib.hid (own_zero (w := w.alloc (.cells #[] 40)) (base := w.heap.size) (e := 40) (size := 4) (heap_alloc_new w _) (Nat.le_refl _))
    have HNw := Lib.hid (HN.out _ ((Q.refl w).alloc (.cells #[] 40)))
    go_wp2_with (at_builtin; refine wpList_append_own_at (w := w.alloc (.cells #[] 40)) rfl (.tmp 5) (.tmp 6) 38 rfl w.heap.size 40 ti _ 4 72 Tryd.underlying38 hi hz0 hz1 hz2 rfl (by decide) (.slice (some ⟨w.heap.size, 0, none⟩) 0 0) 0 [] rfl HZ.out ad ks.length c cells rfl HCL.out HNw.out H1.out (by unfold maxLen; omega) (by omega) (by simp) ?_)
    intro v' w1 hown hgrow _ hob
    obtain ⟨A', c', hv'⟩ := row_form' hown
    have hx : CloneP 40 4 ks.length cells w (.returned v') w1 := by
      refine ⟨v', rfl, hown, ?_, A', c', hv'⟩
      exact Below.grown ((Q.refl w).alloc _) hgrow (by simp) (fun k hk => by simp [Value.ownBlock] at hk; omega)
    have HX := Lib.hid hx
    clear hown hgrow hob hx
    subst hv'
    go_wp2_with fail
    go_ret
    exact HX.out
def ixN (x : Txt) : List Txt → Nat → Int
  | [], _ => -1
  | y :: r, k => if x = y then (k : Int) else ixN x r (k + 1)
set_option maxRecDepth 100000 in
theorem index_name (ns : List Txt) (x : Txt) (w : World) (vn : Value) (h : NsV w vn ns) : Calls Tryd.prog 50 #[vn, .string ⟨x.toArray⟩] w fun e w' => e = .returned (.int .i64 (ixN x ns 0)) ∧ Q w w' := by
  obtain ⟨A, c, rfl, hc1, hc2, hc3⟩ := h.at
  obtain ⟨N, hN⟩ : ∃ N, ixN x ns 0 = N := ⟨_, rfl⟩
  rw [hN]
  have HN := Lib.hid hN
  have HC3 := Lib.hid hc3
  have hnl : ns.length ≤ 9223372036854775807 := by omega
  clear h hc3 hN hc2
  go_enter Tryd.func50, Tryd.ntmps50
  go_wp2_with fail
  go_loopw [8] (fun i wx => ∃ k : Nat, k ≤ ns.length ∧ i = .int .i64 k ∧ Hid (Q w wx ∧ ixN x (ns.drop k) k = N)) (fun i _ => ns.length - (intOf i).toNat)
  case atStart => exact ⟨0, by omega, rfl, Lib.hid ⟨Q.refl w, HN.out⟩⟩
  case round =>
    obtain ⟨k, hk, rfl, HI⟩ := hrel
    rename World => wa
    by_cases hlt : k < ns.length
    · have hd : decide (k < ns.length) = true := by simpa using hlt
      obtain ⟨g, off, rfl, hcell⟩ := HC3.out k hlt
      have cx := HI.out.1.cell hcell
      have hE := HI.out.2
      rw [gL_drop ns k hlt, ixN] at hE
      obtain ⟨y, hy⟩ : ∃ y, gL ns k = y := ⟨_, rfl⟩
      rw [hy] at cx hE
      have HE := Lib.hid hE
      clear hcell hy hE
      by_cases hp : x = y
      · have g2 : (x == y) = true := by simpa using hp
        have HE2 : Hid ((k : Int) = N) := Lib.hid (by have := HE.out; rw [if_pos hp] at this; exact this)
        have HQ := Lib.hid HI.out.1
        clear HE hp
        go_wp2_with fail
        go_ret
        exact ⟨ret_int HE2.out, HQ.out⟩
      · have g2 : (x == y) = false := by simpa using hp
        have HE2 : Hid (Q w wa ∧ ixN x (ns.drop (k + 1)) (k + 1) = N) := Lib.hid ⟨HI.out.1, by have := HE.out; rw [if_neg hp] at this; exact this⟩
        clear HE hp
        go_wp2_with fail
        go_roundw
        case rel => exact ⟨k + 1, by omega, by go_num, HE2⟩
        case measure => simp [intOf]; omega
    · have hd : decide (k < ns.length) = false := by simpa using hlt
      have HX : Hid ((-1 : Int) = N) := Lib.hid (by have := HI.out.2; rw [List.drop_of_length_le (by omega)] at this; exact this)
      have HQ := Lib.hid HI.out.1
      go_wp2_with fail
      go_ret
      exact ⟨ret_int HX.out, HQ.out⟩
end Go.Proofs.YtlhhiiemojhjdaaDoor
set_option linter.unusedVariables false
set_option linter.unusedSimpArgs false
namespace Go.Proofs.YtlhhiiemojhjdaaDoor
open Go Go.RowKit
structure TwS (k : Int) (t : Txt) (ns : List Txt) (ks : List JsonD) (w : World) (B : Nat) (un : Value) (g cap i : Nat) (dn rest : List Value) (W : World) : Prop where
  q : Q w W
  sz : w.heap.size = B
  box : W.heap[B]? = some (.cells (cellJ (.mk k t ns ks) un (.slice (some ⟨g, 0, none⟩) ks.length cap)).toArray 40 (0, 0))
  res : W.heap[B + 1]? = some (.cells zeroC.toArray 40 (0, 0))
  nrow : W.ownsRow (B + 2) 9 1 un ns.length (ns.map strV)
  lo : B + 2 ≤ g
  cap1 : ks.length ≤ cap
  cap2 : cap ≤ maxLen
  row : ∃ cur, W.heap[g]? = some (.cells cur 40 (0, 0)) ∧ cur.size = cap * 4 ∧ cur.toList.take (ks.length * 4) = dn ++ rest
  dlen : dn.length = i * 4
  rlen : rest.length = (ks.length - i) * 4
  kids : JOK W (fun b => un.ownBlock = some b ∨ b = g) (ks.take i) (B + 2) W.heap.size dn
  jk : JK w (ks.drop i) rest
theorem gK_dropJ (ks : List JsonD) (i : Nat) (h : i < ks.length) : ks.drop i = gK ks i :: ks.drop (i + 1) := by
  rw [gK_get ks i h]; exact List.drop_eq_getElem_cons h
theorem rlen_next {n i : Nat} {rest a b : List Value} (h : rest.length = (n - i) * 4) (hr : rest = a ++ b) (ha : a.length = 4) (hi : i < n) : b.length = (n - (i + 1)) * 4 := by
  rw [hr, List.length_append, ha] at h
  omega
theorem take_mid {n i : Nat} {a b : List Value} {c : List Value} (ha : a.length = i * 4) (hb : b.length = 4) (hi : i < n) : List.take (n * 4) (a ++ b ++ c) = a ++ b ++ c.take ((n - (i + 1)) * 4) := by
  have hl : (a ++ b).length = i * 4 + 4 := by rw [List.length_append, ha, hb]
  rw [List.take_append, List.take_of_length_le (by rw [hl]; omega), hl]
  congr 2
  omega
theorem TwS.next {k : Int} {t : Txt} {ns : List Txt} {ks : List JsonD} {w : World} {B : Nat} {un : Value} {g cap i : Nat} {dn rest : List Value} {W X : World} {l : Nat} {vn vk xn xk : Value} {rest2 : List Value} (h : TwS k t ns ks w B un g cap i dn rest W) (hi : i < ks.length)
    (hr : rest = cellJ (gK ks i) vn vk ++ rest2) (hq : Q W X) (hl : W.heap.size ≤ l) (hj : JO X (gK ks i) l X.heap.size xn xk) (hk2 : JK w (ks.drop (i + 1)) rest2) :
    TwS k t ns ks w B un g cap (i + 1) (dn ++ cellJ (gK ks i) xn xk) rest2 (X.setCells g (i * 4) (cellJ (gK ks i) xn xk)) := by
  obtain ⟨cur, c1, c2, c3⟩ := h.row
  have c1x := hq.block c1
  have hgl := lt_of_heap c1
  have hlo := h.lo
  have hgb := setCells_gb g (cellJ (gK ks i) xn xk) (i * 4) X
  have hvs : (cellJ (gK ks i) xn xk).length = 4 := jsonC_len _ _ _ _
  have hv2 : (cellJ (gK ks i) vn vk).length = 4 := jsonC_len _ _ _ _
  have hcap := h.cap1
  have hcells := heap_setCells g 40 (0, 0) (cellJ (gK ks i) xn xk) (i * 4) X cur c1x (by rw [hvs, c2]; omega)
  have hf : ∀ b, b < X.heap.size → b ≠ g → (X.setCells g (i * 4) (cellJ (gK ks i) xn xk)).heap[b]? = X.heap[b]? := fun b h1 h2 => hgb.block b h1 (by simpa using Ne.symm h2 |> fun e => fun e' => h2 e')
  have hbl := lt_of_heap h.box
  have hrl := lt_of_heap h.res
  have hsx := hq.size
  have hsf := hgb.size
  have hnb : ∀ b, un.ownBlock = some b → B + 2 ≤ b ∧ b < W.heap.size := fun b e => ownsRow_base h.nrow e
  have hng : ∀ b, un.ownBlock = some b → b ≠ g := fun b e e2 => by
    subst e2
    rcases h.nrow.2 with ⟨e3, _⟩ | ⟨g1, cp, cu, e3, _, e4, _⟩
    · rw [e3] at e; cases e
    · rw [e3] at e
      simp [Value.ownBlock] at e
      subst e
      rw [c1] at e4
      injection e4 with e4
      injection e4 with _ e4 _
      exact absurd e4 (by decide)
  refine ⟨?_, h.sz, ?_, ?_, ?_, h.lo, h.cap1, h.cap2, ⟨_, hcells, ?_, ?_⟩, ?_, ?_, ?_, hk2⟩
  · have hws := h.sz
    exact (h.q.trans hq).below (Below.grown (Below.refl _ _) hgb (by have := h.q.size; omega) (fun b hb => by simp at hb; omega))
  · rw [hf B (by omega) (by omega)]; exact hq.block h.box
  · rw [hf (B + 1) (by omega) (by omega)]; exact hq.block h.res
  · exact ownsRow_frame (ownsRow_frame h.nrow (fun b e h1 => Below.block hq b h1)) (fun b e h1 => hf b h1 (hng b e))
  · simp [hvs]; omega
  · have e1 : cur.toList.take (i * 4) = dn := by
      have := congrArg (List.take (i * 4)) c3
      rw [List.take_take, Nat.min_eq_left (by omega), List.take_left' h.dlen] at this
      exact this
    have e2 : (cur.toList.drop (i * 4 + 4)).take ((ks.length - (i + 1)) * 4) = rest2 := by
      have := congrArg (List.drop (i * 4 + 4)) c3
      rw [List.drop_take, hr, ← List.append_assoc, List.drop_left' (by rw [List.length_append, h.dlen, hv2])] at this
      rw [← this]; congr 1; omega
    show List.take (ks.length * 4) (cur.toList.take (i * 4) ++ cellJ (gK ks i) xn xk ++ cur.toList.drop (i * 4 + (cellJ (gK ks i) xn xk).length)) = dn ++ cellJ (gK ks i) xn xk ++ rest2
    rw [e1, hvs, ← e2]
    exact take_mid h.dlen hvs hi
  · rw [List.length_append, h.dlen, hvs, Nat.add_mul]
  · exact rlen_next h.rlen hr hv2 hi
  · rw [gK_take ks i hi]
    have hk1 : JOK X (fun b => un.ownBlock = some b ∨ b = g) (ks.take i) (B + 2) W.heap.size dn := JOK.frame _ _ _ _ _ (fun b _ _ h3 => Below.block hq b h3) h.kids
    have hk3 : JOK (X.setCells g (i * 4) (cellJ (gK ks i) xn xk)) (fun b => un.ownBlock = some b ∨ b = g) (ks.take i) (B + 2) W.heap.size dn := JOK.frameX (fun b _ _ hx h3 => hf b h3 (fun e => hx (.inr e))) hk1
    have hj3 : JO (X.setCells g (i * 4) (cellJ (gK ks i) xn xk)) (gK ks i) l X.heap.size xn xk := JO.frame _ _ _ _ _ (fun b h1 _ h3 => hf b h3 (by omega)) hj
    refine JOK.snoc hj3 hsf (fun b hb => ?_) (hk3.widen (Nat.le_refl _) hl (fun b hb => .inl hb)) (by have := h.q.size; omega)
    left
    rcases hb with hb | hb
    · have := (hnb b hb).2; omega
    · omega
theorem TwS.done {k : Int} {t : Txt} {ns : List Txt} {ks : List JsonD} {w : World} {B : Nat} {un : Value} {g cap : Nat} {dn rest : List Value} {W : World} (h : TwS k t ns ks w B un g cap ks.length dn rest W) : JO W (.mk k t ns ks) (B + 2) W.heap.size un (.slice (some ⟨g, 0, none⟩) ks.length cap) := by
  obtain ⟨cur, c1, c2, c3⟩ := h.row
  have hr : rest = [] := List.eq_nil_of_length_eq_zero (by rw [h.rlen]; omega)
  subst hr
  have hk := h.kids
  rw [List.take_length] at hk
  rw [List.append_nil] at c3
  have hgl := lt_of_heap c1
  have hlo := h.lo
  rw [JO]
  refine ⟨by omega, h.nrow, fun b hb => (ownsRow_base h.nrow hb).2, fun b hb => by simp [Value.ownBlock] at hb; omega, dn, ⟨by rw [h.dlen], .inr ⟨g, cap, cur, rfl, h.lo, c1, h.cap1, h.cap2, c2, c3⟩⟩, hk.widen (Nat.le_refl _) (Nat.le_refl _) (fun b hb => .inl (by
    rcases hb with hb | hb
    · exact .inl hb
    · simp [Value.ownBlock] at hb; exact .inr hb.symm))⟩
end Go.Proofs.YtlhhiiemojhjdaaDoor
