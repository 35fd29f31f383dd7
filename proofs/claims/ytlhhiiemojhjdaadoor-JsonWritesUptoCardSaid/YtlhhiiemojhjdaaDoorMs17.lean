/- Texts of this proof, laid into one: LbE, LbF, LbG, LbH, LbI. -/
import Derived.Test.YtlhhiiemojhjdaaDoorMs16
set_option linter.unusedVariables false
set_option linter.unusedSimpArgs false
namespace Go.Proofs.YtlhhiiemojhjdaaDoor
open Go Go.RowKit
def CpKids (ks : List JsonD) : Prop := ∀ i, i < ks.length → ∀ W un uk, JV W (gK ks i) un uk → Calls Tryd.prog 29 #[.agg (cellJ (gK ks i) un uk).toArray] W (CpP (gK ks i) W)
set_option maxRecDepth 100000 in
set_option maxHeartbeats 4000000 in
theorem copied_step (k : Int) (t : Txt) (ns : List Txt) (ks : List JsonD) (w : World) (vn vk : Value) (hj : JV w (.mk k t ns ks) vn vk) (hkl : ks.length ≤ 2000000) (hnl : ns.length ≤ 2000000) (IH : CpKids ks) :
    Calls Tryd.prog 29 #[.agg (cellJ (.mk k t ns ks) vn vk).toArray] w (CpP (.mk k t ns ks) w) := by
  obtain ⟨⟨A1, n1, c1, rfl⟩, -⟩ := jv_slices hj
  have hnv : NsV w (.slice A1 n1 c1) ns := by rw [JV] at hj; exact hj.1
  obtain ⟨A, c, rfl, hc1, hc2, hkid⟩ := hj.kidAt
  have HKid := Lib.hid hkid
  have HIH := Lib.hid IH
  have HNv := Lib.hid hnv
  clear hkid IH hj hnv
  go_enter Tryd.func29, Tryd.ntmps29
  go_upto_region 1 with (fail)
  have e1 := heap_alloc_new w (.cells (cellJ (.mk k t ns ks) (.slice A1 n1 c1) (.slice A ks.length c)).toArray 40)
  have q1 : Q w (w.alloc (.cells (cellJ (.mk k t ns ks) (.slice A1 n1 c1) (.slice A ks.length c)).toArray 40)) := (Q.refl w).alloc _
  have s1 : (w.alloc (.cells (cellJ (.mk k t ns ks) (.slice A1 n1 c1) (.slice A ks.length c)).toArray 40)).heap.size = w.heap.size + 1 := by simp
  obtain ⟨W1, hW1⟩ : ∃ W1, w.alloc (.cells (cellJ (.mk k t ns ks) (.slice A1 n1 c1) (.slice A ks.length c)).toArray 40) = W1 := ⟨_, rfl⟩
  rw [hW1] at e1 q1 s1
  rw [hW1]
  have e2 := heap_alloc_new W1 (.cells zeroC.toArray 40)
  have q2 : Q W1 (W1.alloc (.cells zeroC.toArray 40)) := (Q.refl W1).alloc _
  have s2 : (W1.alloc (.cells zeroC.toArray 40)).heap.size = w.heap.size + 2 := by simp [s1]
  rw [s1] at e2
  obtain ⟨W2, hW2⟩ : ∃ W2, W1.alloc (.cells zeroC.toArray 40) = W2 := ⟨_, rfl⟩
  rw [hW2] at e2 q2 s2
  have hW2' : W1.alloc (.cells #[.int .i64 0, .string ⟨#[]⟩, .slice none 0 0, .slice none 0 0] 40) = W2 := hW2
  rw [hW2']
  obtain ⟨B, hB⟩ : ∃ B, w.heap.size = B := ⟨_, rfl⟩
  have e1 := q2.block e1
  rw [hB] at e1 e2 s2
  rw [hB]
  have HB := Lib.hid hB
  have HE1 := Lib.hid e1
  have HE2 := Lib.hid e2
  have HS2 := Lib.hid s2
  have HQ2 := Lib.hid (q1.trans q2)
  clear e1 e2 q1 q2 s1 s2 hW1 hW2 hW2' hB
  have x2 : W2.cell? ⟨B, 2, none⟩ = some (.slice A1 n1 c1) := by rw [cell_of_row _ _ _ _ _ _ HE1.out]; rfl
  have HNv2 := Lib.hid (HNv.out.mono (fun _ _ => HQ2.out.cell))
  go_upto_region 2 with (fail)
  iterate 10 go_step
  refine wpList_append_ns rfl (.tmp 7) (.tmp 9) rfl W2 (.slice A1 n1 c1) ns (by rfl) (by rfl) HNv2.out (by omega) ?_
  intro vn' W3 hn3 hq3
  rw [HS2.out] at hn3
  obtain ⟨An, cn, hvn, hn5, hn6, -⟩ := row_cells hn3 (by simp)
  subst hvn
  have HC0 : Hid (CpK (B + 2) ns [] W3 (.slice An ns.length cn) (.slice none 0 0) []) := Lib.hid (CpK.start hn3 (by have := hq3.size; have := HS2.out; omega))
  have HQ3 := Lib.hid hq3
  clear hn3 hq3 x2 HNv2 HNv
  go_wp2_with fail
  go_loopg [4, 5] (ks.length + 1) (fun gk v i wx => ∃ (q : Nat) (acc : List JsonD), gk = ks.length - q + 1 ∧ q ≤ ks.length ∧ i = .int .i64 (q : Int) ∧ acc = ks.take q ∧ acc.length = q ∧ Hid (∃ cells, CpK (B + 2) ns acc wx (.slice An ns.length cn) v cells) ∧ Hid (Q W2 wx))
  case atStart => exact ⟨0, [], rfl, by omega, rfl, rfl, rfl, Lib.hid ⟨[], HC0.out⟩, HQ3⟩
  case round =>
    obtain ⟨q, acc, rfl, hq, rfl, hacc, haql, HI, HQI⟩ := hrel
    rename World => wa
    have HAcc := Lib.hid hacc
    have HAql := Lib.hid haql
    obtain ⟨cells, hC⟩ := HI.out
    obtain ⟨Ak, ck, hvk, hn7, hn8, -⟩ := row_cells hC.krow hC.krow.1
    rw [haql] at hvk hn7
    subst hvk
    have HC := Lib.hid hC
    clear hacc haql hC HI
    have HE1w := Lib.hid (HQI.out.block HE1.out)
    have HE2w := Lib.hid (HQI.out.block HE2.out)
    have x3 : wa.cell? ⟨B, 3, none⟩ = some (.slice A ks.length c) := by rw [cell_of_row _ _ _ _ _ _ HE1w.out]; rfl
    by_cases hlt : q < ks.length
    · have hdq : decide (q < ks.length) = true := by simpa using hlt
      obtain ⟨g, off, un, uk, hA⟩ := HKid.out q hlt
      obtain rfl := hA.a
      have hqw := HQ2.out.trans HQI.out
      have HRg : Hid (wa.rangeAt g (off + q * 4) (cellJ (gK ks q) un uk)) := Lib.hid (fun j u hu => hqw.cell (hA.rg j u hu))
      have HCl := Lib.hid (HIH.out q hlt wa un uk (hA.jv.q hqw))
      have HIn : Hid ((Tryd.prog.info? 40).map (·.size) = some (cellJ (gK ks q) un uk).length) := Lib.hid (info_sz (gK ks q) un uk)
      clear hA hqw
      go_wp2_with (refine wpList_load_mid rfl 40 (.tmp 21) rfl g (off + q * 4) rfl (cellJ (gK ks q) un uk) _ HRg.out Tryd.underlying40 rfl HIn.out ?_; simp only [Act.put, List.setIfInBounds_toArray, List.set_cons_succ, List.set_cons_zero])
      refine HCl.out.mono ?_
      rintro e w1 ⟨xn, xk, rfl, hjo, hq1⟩
      have HJo := Lib.hid hjo
      have HQ1 := Lib.hid hq1
      obtain ⟨kk, hkk⟩ : ∃ kk, (gK ks q).kind = kk := ⟨_, rfl⟩
      obtain ⟨kt, hkt⟩ : ∃ kt, (gK ks q).text = kt := ⟨_, rfl⟩
      have hcj : cellJ (gK ks q) xn xk = jsonC kk kt xn xk := by unfold cellJ; rw [hkk, hkt]
      have HCj := Lib.hid hcj
      rw [hcj]
      have HSz := Lib.hid (rowJ_sz kk kt xn xk)
      have HOne := Lib.hid (rowJ_one (k := kk) (t := kt) (jo_form hjo).1 (jo_form hjo).2)
      have HF := Lib.hid (jo_form hjo)
      clear hjo hq1 HCl HRg HIn hkk hkt hcj x3
      go_upto_region 8 with (refine wpList_store_row rfl 40 (.tmp 6) (.tmp 23) rfl w1.heap.size (jsonC kk kt xn xk).toArray rfl rfl 40 _ (heap_alloc_new w1 _) HSz.out rfl HOne.out ?_)
      obtain ⟨W5, hW5⟩ : ∃ W5, (w1.alloc (.cells #[.int .i64 0, .string ⟨#[]⟩, .slice none 0 0, .slice none 0 0] 40)).setRow w1.heap.size (jsonC kk kt xn xk).toArray = W5 := ⟨_, rfl⟩
      have hk2 : W5.heap[w1.heap.size]? = some (.cells (jsonC kk kt xn xk).toArray 40 (0, 0)) := by rw [← hW5]; exact setRow_at (heap_alloc_new w1 _) _
      have hq2 : Q w1 W5 := by rw [← hW5]; exact ((Q.refl w1).alloc _).setRow (Nat.le_refl _) _
      rw [hW5]
      obtain ⟨N, hN⟩ : ∃ N, w1.heap.size = N := ⟨_, rfl⟩
      rw [hN] at hk2 ⊢
      have HK2 : Hid (W5.heap[N]? = some (.cells #[.int .i64 kk, .string ⟨kt.toArray⟩, xn, xk] 40 (0, 0))) := Lib.hid hk2
      have HSz2 : Hid ((Tryd.prog.info? 40).map (·.size) = some (#[Value.int .i64 kk, .string ⟨kt.toArray⟩, xn, xk]).size) := Lib.hid HSz.out
      have HQ5 := Lib.hid hq2
      clear hk2 hq2 hW5 hN
      obtain ⟨ti, hi, hz0, hz1, hz2⟩ := info_parts info_json
      have hq6 : Q w1 (W5.alloc (.cells #[.int .i64 kk, .string ⟨kt.toArray⟩, xn, xk] 40)) := HQ5.out.alloc _
      have hq7 : Q wa (W5.alloc (.cells #[.int .i64 kk, .string ⟨kt.toArray⟩, xn, xk] 40)) := HQ1.out.trans hq6
      have hkr := ownsRow_frame HC.out.krow (fun i _ h => Below.block hq7 i h)
      rw [HAql.out] at hkr
      have ha1 : ∀ j u, (jsonC kk kt xn xk)[j]? = some u → (W5.alloc (.cells #[.int .i64 kk, .string ⟨kt.toArray⟩, xn, xk] 40)).cell? ((⟨W5.heap.size, 0, none⟩ : Addr).add j) = some u := by
        intro j u hj
        rw [add_off, Nat.zero_add, cell_of_row _ _ _ _ _ _ (heap_alloc_new W5 _)]
        simpa [jsonC] using hj
      have ha2 : ∀ u ∈ jsonC kk kt xn xk, u.oneCell' = true := by
        obtain ⟨⟨_, _, _, rfl⟩, ⟨_, _, _, rfl⟩⟩ := HF.out
        intro u hu; simp [jsonC] at hu; rcases hu with rfl | rfl | rfl | rfl <;> rfl
      have HA := Lib.hid (And.intro hkr (And.intro ha1 ha2))
      have HI4 := Lib.hid (And.intro hi (And.intro hz0 (And.intro hz1 hz2)))
      have HQ6 := Lib.hid hq6
      have HQ7 := Lib.hid hq7
      have HBs : Hid (B + 2 ≤ (W5.alloc (.cells #[.int .i64 kk, .string ⟨kt.toArray⟩, xn, xk] 40)).heap.size) := Lib.hid (by have := hq7.size; have := HC.out.le; omega)
      clear hkr ha1 ha2 hi hz0 hz1 hz2 hq6 hq7
      go_wp2_with (first | refine wpList_load_row rfl 40 (.tmp 6) rfl N rfl 40 #[.int .i64 kk, .string ⟨kt.toArray⟩, xn, xk] (0, 0) _ HK2.out Tryd.underlying40 rfl HSz2.out ?_ | (at_builtin; refine wpList_append_own_at (w := W5.alloc (.cells #[.int .i64 kk, .string ⟨kt.toArray⟩, xn, xk] 40)) rfl (.tmp 24) (.tmp 26) 38 rfl (B + 2) 40 ti _ 4 72 Tryd.underlying38 HI4.out.1 HI4.out.2.1 HI4.out.2.2.1 HI4.out.2.2.2 rfl (by decide) (.slice Ak q ck) q cells rfl HA.out.1 ⟨W5.heap.size, 0, none⟩ 1 1 (jsonC kk kt xn xk) rfl rfl HA.out.2.1 HA.out.2.2 (by unfold maxLen; omega) (by omega) HBs.out ?_; intro v' w4 hrow hgrow _ hob; have HRow := Lib.hid hrow; have HGrow := Lib.hid hgrow; have HOb := Lib.hid hob; clear hrow hgrow hob))
      have HM := Lib.hid (HC.out.more HQ1.out HJo.out HQ6.out HGrow.out (by rw [HAql.out, HCj.out]; exact HRow.out) HOb.out)
      have HQn : Hid (Q W2 w4) := Lib.hid (Q.below (HQI.out.trans HQ7.out) ⟨HGrow.out.os, HGrow.out.tape, HGrow.out.output, by have := HGrow.out.size; have := (HQI.out.trans HQ7.out).size; omega, fun i hi => HGrow.out.block i (Nat.lt_of_lt_of_le hi (HQI.out.trans HQ7.out).size) (fun e => by have := (ownsRow_base HC.out.krow e.symm).1; have := HS2.out; omega)⟩)
      go_roundg (ks.length - (q + 1) + 1)
      case measure => omega
      case rel => exact ⟨q + 1, acc ++ [gK ks q], rfl, by omega, by simp, by rw [HAcc.out, gK_take ks q hlt], by rw [List.length_append, HAql.out]; rfl, Lib.hid ⟨_, HM.out⟩, HQn⟩
    · have hdq : decide (q < ks.length) = false := by simpa using hlt
      have he : acc = ks := by rw [HAcc.out, List.take_of_length_le (by omega)]
      have hqk : q = ks.length := by omega
      subst hqk
      have HD := HC.out
      rw [he] at HD
      have HJd := HD.done (k := k) (t := t) (base := B) (by omega)
      have hlo := HD.le
      have h1w := HE1w.out
      have h2w := HE2w.out
      have x2 : wa.cell? ⟨B, 2, none⟩ = some (.slice A1 n1 c1) := by rw [cell_of_row _ _ _ _ _ _ h1w]; rfl
      have f2 := frozen_of_row wa B 2 _ _ h1w
      have f3 := frozen_of_row wa B 3 _ _ h1w
      have hA1 : ((wa.setCell ⟨B, 2, none⟩ (.slice An ns.length cn)).setCell ⟨B, 3, none⟩ (.slice Ak ks.length ck)).heap[B]? = some (.cells (jsonC k t (.slice An ns.length cn) (.slice Ak ks.length ck)).toArray 40 (0, 0)) := by
        rw [heap_setCell_any _ B 3 _ _ _ _ (heap_setCell_any _ B 2 _ _ _ _ h1w)]; rfl
      have hA2 : ((wa.setCell ⟨B, 2, none⟩ (.slice An ns.length cn)).setCell ⟨B, 3, none⟩ (.slice Ak ks.length ck)).heap[B + 1]? = some (.cells zeroC.toArray 40 (0, 0)) := by
        rw [heap_setCell_other _ ⟨B, 3, none⟩ (B + 1) _ (by show B + 1 ≠ B; omega), heap_setCell_other _ ⟨B, 2, none⟩ (B + 1) _ (by show B + 1 ≠ B; omega)]; exact h2w
      obtain ⟨W8, hW8⟩ : ∃ W8, (((wa.setCell ⟨B, 2, none⟩ (.slice An ns.length cn)).setCell ⟨B, 3, none⟩ (.slice Ak ks.length ck)).setRow (B + 1) (jsonC k t (.slice An ns.length cn) (.slice Ak ks.length ck)).toArray) = W8 := ⟨_, rfl⟩
      have hs8 : W8.heap.size = wa.heap.size := by rw [← hW8]; simp [World.setRow]
      have ho8 : ∀ i, B + 2 ≤ i → W8.heap[i]? = wa.heap[i]? := fun i hi => by
        rw [← hW8, setRow_other _ _ _ _ (by omega), heap_setCell_other _ ⟨B, 3, none⟩ i _ (by show i ≠ B; omega), heap_setCell_other _ ⟨B, 2, none⟩ i _ (by show i ≠ B; omega)]
      have HX : Hid (CpP (.mk k t ns ks) w (.returned (.agg (jsonC k t (.slice An ns.length cn) (.slice Ak ks.length ck)).toArray)) W8) := Lib.hid (by
        refine ⟨_, _, rfl, ?_, ?_⟩
        · rw [HB.out, hs8]
          exact (JO.frame _ _ _ _ _ (fun b e1 _ e3 => ho8 b e1) (HD.done (k := k) (t := t) (base := B + 2) (Nat.le_refl _))).widen (by omega) (Nat.le_refl _)
        · rw [← hW8]
          have hb := HB.out
          exact (((HQ2.out.trans HQI.out).setNew (p := ⟨B, 2, none⟩) (by show w.heap.size ≤ B; omega) _).setNew (p := ⟨B, 3, none⟩) (by show w.heap.size ≤ B; omega) _).setRow (g := B + 1) (by omega) _)
      have HA1 := Lib.hid hA1
      have HA2 := Lib.hid hA2
      have H8 : Hid (W8.heap[B + 1]? = some (.cells (jsonC k t (.slice An ns.length cn) (.slice Ak ks.length ck)).toArray 40 (0, 0))) := Lib.hid (by rw [← hW8]; exact setRow_at hA2 _)
      have HW8 := Lib.hid hW8
      have HSz := Lib.hid (rowJ_sz k t (.slice An ns.length cn) (.slice Ak ks.length ck))
      have HOne := Lib.hid (rowJ_one (k := k) (t := t) (un := .slice An ns.length cn) (uk := .slice Ak ks.length ck) ⟨_, _, _, rfl⟩ ⟨_, _, _, rfl⟩)
      clear he HD HJd hlo h1w h2w hA1 hA2 hs8 ho8 hW8 hlt
      go_wp2_with (first | refine wpList_load_row rfl 40 (.tmp 1) rfl B rfl 40 (jsonC k t (.slice An ns.length cn) (.slice Ak ks.length ck)).toArray (0, 0) _ HA1.out Tryd.underlying40 rfl HSz.out ?_ | refine wpList_store_row rfl 40 (.tmp 2) (.tmp 32) rfl (B + 1) (jsonC k t (.slice An ns.length cn) (.slice Ak ks.length ck)).toArray rfl rfl 40 _ HA2.out HSz.out rfl HOne.out ?_)
      rw [HW8.out]
      refine bodyPost_ret (results_cell_row rfl _ _ (B + 1) 40 _ (0, 0) _ (by rfl) H8.out Tryd.underlying40 rfl HSz.out) rfl ?_
      exact HX.out
theorem copied_all : ∀ (n : Nat) (j : JsonD), cntJ j ≤ n → cntJ j ≤ 2000000 → lenJ 2000000 j → ∀ (w : World) (vn vk : Value), JV w j vn vk → Calls Tryd.prog 29 #[.agg (cellJ j vn vk).toArray] w (CpP j w)
  | 0, j, hn, _, _, _, _, _, _ => absurd hn (by have := cnt_pos j; omega)
  | n + 1, .mk k t ns ks, hn, hm, hl, w, vn, vk, hj => by
    have hn' := hn
    rw [cntJ] at hn'
    have hm' := hm
    rw [cntJ] at hm'
    rw [lenJ] at hl
    have hcl := cnt_len ks
    exact copied_step k t ns ks w vn vk hj (by omega) hl.1 (fun i hi W un uk hv => by
      have hc := cnt_gK hi
      exact copied_all n (gK ks i) (by omega) (by omega) (lenKs_gK hl.2 hi) W un uk hv)
end Go.Proofs.YtlhhiiemojhjdaaDoor
set_option linter.unusedVariables false
set_option linter.unusedSimpArgs false
namespace Go.Proofs.YtlhhiiemojhjdaaDoor
open Go Go.RowKit
theorem own_lit (w : World) (b : List UInt8) (hb : b.length ≤ 1000) : OwnB w (w.alloc (.cells (arrB b) 5)) (.slice (some ⟨w.heap.size, 0, none⟩) b.length b.length) b :=
  .inr ⟨w.heap.size, b.length, arrB b, (0, 0), rfl, Nat.le_refl _, heap_alloc_new w _, .inl rfl, Nat.le_refl _, by unfold maxLen; omega, by simp [arrB], by
    rw [show (arrB b).toList = b.map u8V from by simp [arrB]]; exact List.take_of_length_le (by simp)⟩
theorem take_nextB (s : Txt) (k : Nat) (h : k < s.length) : s.take (k + 1) = s.take k ++ [gB s k] := by
  rw [List.take_add_one, List.getElem?_eq_getElem h]
  simp [gB, List.getD, h]
theorem hexG : ∀ n : Fin 32, ([92, 117, 48, 48, gB [48, 49] (n.val / 16), gB [48, 49, 50, 51, 52, 53, 54, 55, 56, 57, 97, 98, 99, 100, 101, 102] (n.val % 16)] : Txt) = [92, 117, 48, 48, hexD (n.val / 16), hexD (n.val % 16)] := by decide
theorem v_ne {v : UInt8} {n : Nat} (hn : n < 256) (h : ¬ v.toNat = n) : ((v.toNat : Int) == (n : Int)) = false := by simp; omega
theorem v_eq {v : UInt8} {n : Nat} (h : v.toNat = n) : ((v.toNat : Int) == (n : Int)) = true := by simp; omega
set_option maxRecDepth 100000 in
set_option maxHeartbeats 8000000 in
theorem rquoted_any (s : Txt) (w : World) (hl : s.length ≤ 1100000) :
    Calls Tryd.prog 89 #[.string ⟨s.toArray⟩] w fun e w' => e = .returned (.string ⟨(quoteJ s).toArray⟩) ∧ Q w w' := by
  have HO0 := Lib.hid (own_lit w [34] (by simp))
  go_enter Tryd.func89, Tryd.ntmps89
  go_upto_region 2 with (fail)
  go_wp2_with fail
  go_loopw [3, 4] (fun v i wr => ∃ k : Nat, k ≤ s.length ∧ i = .int .i64 (k : Int) ∧ Hid (OwnB w wr v (34 :: escL (s.take k)) ∧ Q w wr)) (fun _ i _ => s.length - (intOf i).toNat)
  case atStart => exact ⟨0, by omega, rfl, Lib.hid ⟨HO0.out, (Q.refl w).alloc _⟩⟩
  case round =>
    obtain ⟨k, hk, rfl, HI⟩ := hrel
    rename World => wa
    by_cases hlt : k < s.length
    · have hd : decide (k < s.length) = true := by simpa using hlt
      have HSN : Hid (34 :: escL (s.take (k + 1)) = (34 :: escL (s.take k)) ++ escB (gB s k)) := Lib.hid (by
        rw [take_nextB s k hlt, escL_app, escL_cons]; simp [escL])
      have HLF : Hid ((34 :: escL (s.take k) : Txt).length ≤ 6600001) := Lib.hid (by have := escL_len (s.take k); rw [List.length_take] at this; simp; omega)
      have HO := Lib.hid HI.out.1
      have HQ := Lib.hid HI.out.2
      clear HI
      generalize (34 :: escL (s.take k) : Txt) = F at HSN HLF HO
      obtain ⟨B, hB⟩ : ∃ B, gB s k = B := ⟨_, rfl⟩
      rw [hB] at HSN
      have hcn := B.toNat_lt
      by_cases h34 : B.toNat = 34
      · have g34 : ((B.toNat : Int) == 34) = true := v_eq (n := 34) h34
        have HE : Hid ([92, B] = escB B) := Lib.hid (escA (.inl (by omega)))
        have HT : Hid (34 :: escL (s.take (k + 1)) = F ++ [92, B]) := Lib.hid (by rw [HSN.out, ← HE.out])
        clear HSN hcn
        try clear h34
        try clear h92
        try clear h10
        try clear h13
        try clear h9
        go_wp2_with (at_builtin; refine wpList_append_b rfl (.tmp 29) (.tmp 33) rfl w wa _ F (by rfl) HO.out HQ.out [92, B] 2 rfl (by rfl) (by have := HLF.out; omega) ?_; intro v9 w9 hown9 hq9 _; have HO9 := Lib.hid hown9; have HQ9 := Lib.hid hq9; clear hown9 hq9)
        go_roundw
        case rel => exact ⟨k + 1, by omega, by go_num, Lib.hid ⟨by rw [HT.out]; exact HO9.out, HQ9.out⟩⟩
        case measure => simp [intOf]; omega
      · have g34 : ((B.toNat : Int) == 34) = false := v_ne (n := 34) (by omega) h34
        have k34 : ¬ (B.toNat : Int) = 34 := by omega
        by_cases h92 : B.toNat = 92
        · have g92 : ((B.toNat : Int) == 92) = true := v_eq (n := 92) h92
          have HE : Hid ([92, B] = escB B) := Lib.hid (escA (.inr (by omega)))
          have HT : Hid (34 :: escL (s.take (k + 1)) = F ++ [92, B]) := Lib.hid (by rw [HSN.out, ← HE.out])
          clear HSN hcn
          try clear h34
          try clear h92
          try clear h10
          try clear h13
          try clear h9
          go_wp2_with (at_builtin; refine wpList_append_b rfl (.tmp 29) (.tmp 33) rfl w wa _ F (by rfl) HO.out HQ.out [92, B] 2 rfl (by rfl) (by have := HLF.out; omega) ?_; intro v9 w9 hown9 hq9 _; have HO9 := Lib.hid hown9; have HQ9 := Lib.hid hq9; clear hown9 hq9)
          go_roundw
          case rel => exact ⟨k + 1, by omega, by go_num, Lib.hid ⟨by rw [HT.out]; exact HO9.out, HQ9.out⟩⟩
          case measure => simp [intOf]; omega
        · have g92 : ((B.toNat : Int) == 92) = false := v_ne (n := 92) (by omega) h92
          have k92 : ¬ (B.toNat : Int) = 92 := by omega
          by_cases h10 : B.toNat = 10
          · have g10 : ((B.toNat : Int) == 10) = true := v_eq (n := 10) h10
            have HE : Hid ([92, 110] = escB B) := Lib.hid (esc10 (by omega))
            have HT : Hid (34 :: escL (s.take (k + 1)) = F ++ [92, 110]) := Lib.hid (by rw [HSN.out, ← HE.out])
            clear HSN hcn
            try clear h34
            try clear h92
            try clear h10
            try clear h13
            try clear h9
            go_wp2_with (at_builtin; refine wpList_append_b rfl (.tmp 40) (.tmp 41) rfl w wa _ F (by rfl) HO.out HQ.out [92, 110] 2 rfl (by rfl) (by have := HLF.out; omega) ?_; intro v9 w9 hown9 hq9 _; have HO9 := Lib.hid hown9; have HQ9 := Lib.hid hq9; clear hown9 hq9)
            go_roundw
            case rel => exact ⟨k + 1, by omega, by go_num, Lib.hid ⟨by rw [HT.out]; exact HO9.out, HQ9.out⟩⟩
            case measure => simp [intOf]; omega
          · have g10 : ((B.toNat : Int) == 10) = false := v_ne (n := 10) (by omega) h10
            have k10 : ¬ (B.toNat : Int) = 10 := by omega
            by_cases h13 : B.toNat = 13
            · have g13 : ((B.toNat : Int) == 13) = true := v_eq (n := 13) h13
              have HE : Hid ([92, 114] = escB B) := Lib.hid (esc13 (by omega))
              have HT : Hid (34 :: escL (s.take (k + 1)) = F ++ [92, 114]) := Lib.hid (by rw [HSN.out, ← HE.out])
              clear HSN hcn
              try clear h34
              try clear h92
              try clear h10
              try clear h13
              try clear h9
              go_wp2_with (at_builtin; refine wpList_append_b rfl (.tmp 48) (.tmp 49) rfl w wa _ F (by rfl) HO.out HQ.out [92, 114] 2 rfl (by rfl) (by have := HLF.out; omega) ?_; intro v9 w9 hown9 hq9 _; have HO9 := Lib.hid hown9; have HQ9 := Lib.hid hq9; clear hown9 hq9)
              go_roundw
              case rel => exact ⟨k + 1, by omega, by go_num, Lib.hid ⟨by rw [HT.out]; exact HO9.out, HQ9.out⟩⟩
              case measure => simp [intOf]; omega
            · have g13 : ((B.toNat : Int) == 13) = false := v_ne (n := 13) (by omega) h13
              have k13 : ¬ (B.toNat : Int) = 13 := by omega
              by_cases h9 : B.toNat = 9
              · have g9 : ((B.toNat : Int) == 9) = true := v_eq (n := 9) h9
                have HE : Hid ([92, 116] = escB B) := Lib.hid (esc9 (by omega))
                have HT : Hid (34 :: escL (s.take (k + 1)) = F ++ [92, 116]) := Lib.hid (by rw [HSN.out, ← HE.out])
                clear HSN hcn
                try clear h34
                try clear h92
                try clear h10
                try clear h13
                try clear h9
                go_wp2_with (at_builtin; refine wpList_append_b rfl (.tmp 56) (.tmp 57) rfl w wa _ F (by rfl) HO.out HQ.out [92, 116] 2 rfl (by rfl) (by have := HLF.out; omega) ?_; intro v9 w9 hown9 hq9 _; have HO9 := Lib.hid hown9; have HQ9 := Lib.hid hq9; clear hown9 hq9)
                go_roundw
                case rel => exact ⟨k + 1, by omega, by go_num, Lib.hid ⟨by rw [HT.out]; exact HO9.out, HQ9.out⟩⟩
                case measure => simp [intOf]; omega
              · have g9 : ((B.toNat : Int) == 9) = false := v_ne (n := 9) (by omega) h9
                have k9 : ¬ (B.toNat : Int) = 9 := by omega
                by_cases h32 : B.toNat < 32
                · have g32 : decide ((B.toNat : Int) < 32) = true := by simp; omega
                  have HE : Hid ([92, 117, 48, 48, gB [48, 49] (B.toNat / 16), gB [48, 49, 50, 51, 52, 53, 54, 55, 56, 57, 97, 98, 99, 100, 101, 102] (B.toNat % 16)] = escB B) := Lib.hid (by
                    rw [← escCtl ⟨h32, k10, k13, k9⟩]; exact hexG ⟨B.toNat, h32⟩)
                  have HT : Hid (34 :: escL (s.take (k + 1)) = F ++ [92, 117, 48, 48, gB [48, 49] (B.toNat / 16), gB [48, 49, 50, 51, 52, 53, 54, 55, 56, 57, 97, 98, 99, 100, 101, 102] (B.toNat % 16)]) := Lib.hid (by rw [HSN.out, ← HE.out])
                  go_upto_region 15 with (fail)
                  have i1 : (B.toNat : Int) / 16 < 2 := by omega
                  have i2 : (0 : Int) ≤ (B.toNat : Int) / 16 := by omega
                  have i3 : (B.toNat : Int) % 16 < 16 := by omega
                  have i4 : (0 : Int) ≤ (B.toNat : Int) % 16 := by omega
                  have n1 : ((B.toNat : Int) / 16).toNat = B.toNat / 16 := by omega
                  have n2 : ((B.toNat : Int) % 16).toNat = B.toNat % 16 := by omega
                  clear HSN HE g34 g92 g10 g13 g9 g32 k34 k92 k10 k13 k9 h34 h92 h10 h13 h9 h32
                  refine wp_region_pure [0, 1, 2, 3, 4, 5, 6, 7, 8, 9, 10] [11, 12, 13] (by kernel_rfl) (by kernel_rfl) (by intro c a d v w h; cases d <;> exact h) ?_
                  simp only [List.map_cons, List.map_nil, Array.getD_eq_getD_getElem?, List.getElem?_toArray, List.getElem?_cons_succ, List.getElem?_cons_zero, Option.getD_some]
                  (repeat (go_big_quiet_step (fail)))
                  refine wpQuiet_nil ?_
                  clear i1 i2 i3 i4 n1 n2 hcn
                  have HO1 := Lib.hid (HO.out.q (Q.refl wa).drew)
                  have HQ1 := Lib.hid HQ.out.drew
                  go_wp2_with (at_builtin; refine wpList_append_b rfl (.tmp 64) (.tmp 75) rfl w wa.drew _ F (by rfl) HO1.out HQ1.out [92, 117, 48, 48, gB [48, 49] (B.toNat / 16), gB [48, 49, 50, 51, 52, 53, 54, 55, 56, 57, 97, 98, 99, 100, 101, 102] (B.toNat % 16)] 6 rfl (by rfl) (by have := HLF.out; omega) ?_; intro v9 w9 hown9 hq9 _; have HO9 := Lib.hid hown9; have HQ9 := Lib.hid hq9; clear hown9 hq9)
                  go_roundw
                  case rel => exact ⟨k + 1, by omega, by go_num, Lib.hid ⟨by rw [HT.out]; exact HO9.out, HQ9.out⟩⟩
                  case measure => simp [intOf]; omega
                · have g32 : decide ((B.toNat : Int) < 32) = false := by simp; omega
                  have HE : Hid ([B] = escB B) := Lib.hid (escRest ⟨h32, k34, k92⟩)
                  have HT : Hid (34 :: escL (s.take (k + 1)) = F ++ [B]) := Lib.hid (by rw [HSN.out, ← HE.out])
                  clear HSN hcn
                  try clear h34
                  try clear h92
                  try clear h10
                  try clear h13
                  try clear h9
                  go_wp2_with (at_builtin; refine wpList_append_b rfl (.tmp 12) (.tmp 16) rfl w wa _ F (by rfl) HO.out HQ.out [B] 1 rfl (by rfl) (by have := HLF.out; omega) ?_; intro v9 w9 hown9 hq9 _; have HO9 := Lib.hid hown9; have HQ9 := Lib.hid hq9; clear hown9 hq9)
                  go_roundw
                  case rel => exact ⟨k + 1, by omega, by go_num, Lib.hid ⟨by rw [HT.out]; exact HO9.out, HQ9.out⟩⟩
                  case measure => simp [intOf]; omega
    · obtain rfl : k = s.length := by omega
      have hd : decide (s.length < s.length) = false := by simp
      have hO := HI.out.1
      rw [List.take_length] at hO
      have HO := Lib.hid hO
      have HQ := Lib.hid HI.out.2
      have HLF : Hid ((34 :: escL s : Txt).length ≤ 6600001) := Lib.hid (by have := escL_len s; simp; omega)
      have HT : Hid (quoteJ s = (34 :: escL s) ++ [34]) := Lib.hid rfl
      clear HI hO
      generalize (34 :: escL s : Txt) = F at HT HLF HO
      go_wp2_with (at_builtin; refine wpList_append_b rfl (.tmp 77) (.tmp 78) rfl w wa _ F (by rfl) HO.out HQ.out [34] 1 rfl (by rfl) (by have := HLF.out; omega) ?_; intro v9 w9 hown9 hq9 _; have hcv := conv_b hown9; have HQ9 := Lib.hid hq9; clear hown9 hq9)
      go_ret
      exact ⟨by rw [HT.out]; rfl, HQ9.out⟩
end Go.Proofs.YtlhhiiemojhjdaaDoor
set_option linter.unusedVariables false
set_option linter.unusedSimpArgs false
namespace Go.Proofs.YtlhhiiemojhjdaaDoor
open Go Go.RowKit
set_option maxRecDepth 100000 in
theorem rnumeral_any (t : Txt) (w : World) (hl : t.length ≤ 1100000) :
    Calls Tryd.prog 88 #[.string ⟨t.toArray⟩] w fun e w' => e = .returned (.bool (isNumL t)) ∧ Q w w' := by
  obtain ⟨W1, hW1⟩ : ∃ W1, w.alloc (.cells #[.string ⟨t.toArray⟩, .int .i64 0, .int .i64 0, .int .i64 0] 89) = W1 := ⟨_, rfl⟩
  have hs : ScB W1 w.heap.size t 0 0 0 := by rw [← hW1]; exact heap_alloc_new w _
  have hq : Q w W1 := by rw [← hW1]; exact (Q.refl w).alloc _
  have HW1 := Lib.hid hW1
  obtain ⟨r, hr⟩ : ∃ r, numR (t.drop 0) = r := ⟨_, rfl⟩
  have HNm := rnumber_any w.heap.size t 0 0 W1 hs (by omega) (by omega)
  rw [hr] at HNm
  have HNm := Lib.hid HNm
  rw [List.drop_zero] at hr
  have HR := Lib.hid (numeral_is hr)
  have HQ := Lib.hid hq
  have hsz : W1.heap.size = w.heap.size + 1 := by rw [← hW1]; simp
  have HSz := Lib.hid hsz
  clear hW1 hs hq hr hsz
  go_enter Tryd.func88, Tryd.ntmps88
  go_upto_region 2 with (fail)
  rw [HW1.out]
  obtain ⟨b, hb⟩ : ∃ b, w.heap.size = b := ⟨_, rfl⟩
  rw [hb] at HNm ⊢
  have HB := Lib.hid hb
  clear hb HW1
  go_wp2_with fail
  refine HNm.out.mono ?_
  rintro e w2 ⟨rfl, hu⟩
  obtain ⟨q, c, a', hq2, hs2, hg2, hc⟩ := hu.st
  have HG2 : Hid (Q w w2) := Lib.hid (by
    refine Q.below HQ.out ⟨hg2.os, hg2.tape, hg2.output, by have := hg2.size; have := HQ.out.size; omega, fun k hk => hg2.block k (Nat.lt_of_lt_of_le hk HQ.out.size) (by have := HB.out; simp; omega)⟩)
  obtain ⟨x0, x1, x2, x3⟩ := hs2.c
  have hlq : t.length ≤ 1100000 := hl
  rcases hc with ⟨rfl, rfl, rfl⟩ | ⟨hc, c0, n0, rfl⟩
  · by_cases he : q = t.length
    · have HX : Hid (isNumL t = true) := Lib.hid (by rw [HR.out, he, List.drop_length]; rfl)
      subst he
      clear hu hs2 hg2 HNm HR
      go_wp2_with fail
      go_ret
      exact ⟨by rw [HX.out]; rfl, HG2.out⟩
    · have HX : Hid (isNumL t = false) := Lib.hid (by
        rw [HR.out]
        have : t.drop q ≠ [] := fun e => by have := congrArg List.length e; simp at this; omega
        cases hd : t.drop q with
        | nil => exact absurd hd this
        | cons y r => rfl)
      have g1 : (q == t.length) = false := by simpa using he
      have g2 : ((q : Int) == (t.length : Int)) = false := by simp; omega
      clear hu hs2 hg2 HNm HR he
      go_wp2_with fail
      go_ret
      exact ⟨by rw [HX.out]; rfl, HG2.out⟩
  · have HX : Hid (isNumL t = false) := Lib.hid (by rw [HR.out]; rfl)
    have g1 : (c == 0) = false := by simpa using hc
    clear hu hs2 hg2 HNm HR hc
    go_wp2_with fail
    go_ret
    exact ⟨by rw [HX.out]; rfl, HG2.out⟩
end Go.Proofs.YtlhhiiemojhjdaaDoor
set_option linter.unusedVariables false
set_option linter.unusedSimpArgs false
namespace Go.Proofs.YtlhhiiemojhjdaaDoor
open Go Go.RowKit
def TdKids (ks : List JsonD) : Prop := ∀ i, i < ks.length → ∀ W un uk, JV W (gK ks i) un uk → Calls Tryd.prog 57 #[.agg (cellJ (gK ks i) un uk).toArray] W (ToldP (gK ks i) W)
theorem big_name2 {k : Int} {t : Txt} {ns : List Txt} {ks : List JsonD} (h : bigJ 1100000 (.mk k t ns ks)) (i : Nat) : (gL ns i).length ≤ 1100000 := by
  rw [bigJ] at h
  by_cases hi : i < ns.length
  · exact h.2.1 (gL ns i) (by simp [gL, List.getD, hi])
  · have e : gL ns i = [] := by simp [gL, List.getD, Nat.le_of_not_lt hi]
    rw [e]; simp
set_option maxRecDepth 100000 in
set_option maxHeartbeats 8000000 in
theorem rtold_kids6 (t : Txt) (ns : List Txt) (ks : List JsonD) (d : Nat) (w : World) (vn vk : Value) (hj : JV w (.mk 6 t ns ks) vn vk) (hw : wfJ (.mk 6 t ns ks) d = true) (hb : bigJ 1100000 (.mk 6 t ns ks)) (hc : cntJ (.mk 6 t ns ks) ≤ 8000) (IH : TdKids ks) :
    Calls Tryd.prog 57 #[.agg (cellJ (.mk 6 t ns ks) vn vk).toArray] w (ToldP (.mk 6 t ns ks) w) := by
  have hcl := cnt_len ks
  rw [cntJ] at hc
  have hkl : ks.length ≤ 8000 := by omega
  have hns : NsV w vn ns := by rw [JV] at hj; exact hj.1
  obtain ⟨A, c, rfl, hc1, hc2, hkid⟩ := hj.kidAt
  obtain ⟨A1, c1, rfl, hn1, hn2, hn3⟩ := hns.at
  have HKid := Lib.hid hkid
  have HIH := Lib.hid IH
  have HN3 := Lib.hid hn3
  have HBig := Lib.hid (big_name2 hb)
  clear hkid IH hj hns hn3 hcl hc hb hw
  go_enter Tryd.func57, Tryd.ntmps57
  go_upto_region 1 with (fail)
  obtain ⟨W1, hW1⟩ : ∃ W1, w.alloc (.cells (cellJ (.mk 6 t ns ks) (.slice A1 ns.length c1) (.slice A ks.length c)).toArray 40) = W1 := ⟨_, rfl⟩
  have hr1 : W1.heap[w.heap.size]? = some (.cells (cellJ (.mk 6 t ns ks) (.slice A1 ns.length c1) (.slice A ks.length c)).toArray 40 (0, 0)) := by rw [← hW1]; exact heap_alloc_new w _
  have hq1 : Q w W1 := by rw [← hW1]; exact (Q.refl w).alloc _
  rw [hW1]
  obtain ⟨jb, hjb⟩ : ∃ jb, w.heap.size = jb := ⟨_, rfl⟩
  rw [hjb] at hr1 ⊢
  have HR1 := Lib.hid hr1
  have HQ1 := Lib.hid hq1
  have HT0 : Hid (ToldI 6 ns ks 0 [91] true) := Lib.hid (ToldI.start 6 ns ks 91 rfl)
  have x0 : W1.cell? ⟨jb, 0, none⟩ = some (.int .i64 6) := by rw [cell_of_row _ _ _ _ _ _ hr1]; rfl
  clear hW1 hr1 hq1 hjb
  go_wp2_with fail
  clear x0
  go_loopg [5, 7, 8] (ks.length + 1) (fun gk s al i wx => ∃ (q : Nat) (S : Txt) (b : Bool), gk = ks.length - q + 1 ∧ q ≤ ks.length ∧ i = .int .i64 (q : Int) ∧ s = .string ⟨S.toArray⟩ ∧ al = .bool b ∧ S.length ≤ 8001 ∧ Hid (ToldI 6 ns ks q S b) ∧ Hid (Q W1 wx))
  case atStart => exact ⟨0, [91], true, rfl, by omega, rfl, rfl, rfl, by simp, HT0, Lib.hid (Q.refl W1)⟩
  case round =>
    obtain ⟨q, S, b, rfl, hq, rfl, rfl, rfl, hS, HI, HQI⟩ := hrel
    rename World => wa
    have HB1 := Lib.hid (HQI.out.block HR1.out)
    have x3 : wa.cell? ⟨jb, 3, none⟩ = some (.slice A ks.length c) := by rw [cell_of_row _ _ _ _ _ _ HB1.out]; rfl
    by_cases hlt : q < ks.length
    · have hdq : decide (q < ks.length) = true := by simpa using hlt
      have HNx : Hid (∀ u S' : Txt, CutT u (writeJ (gK ks q)) → S' = S ++ (commaJ (q == 0) ++ (nameW 6 ns q ++ u)) → ToldI 6 ns ks (q + 1) (if 8000 < S'.length then S'.take 8001 else S') (b && numJ (gK ks q))) := Lib.hid (fun u S' h1 h2 => HI.out.next hlt h1 h2)
      clear HI
      go_upto_if 43 with (fail)
      go_cut [5] (fun s wx => ∃ S1 : Txt, s = .string ⟨S1.toArray⟩ ∧ S1.length ≤ 8002 ∧ Hid (S1 = S ++ commaJ (q == 0)) ∧ wa = wx)
      case first =>
        by_cases hq0 : q = 0
        · have g0 : ¬ 0 < q := by omega
          have HX : Hid (S = S ++ commaJ (q == 0)) := Lib.hid (by rw [hq0]; simp [commaJ])
          clear hq0
          go_wp2_with fail
          go_meet
          exact ⟨S, rfl, by omega, HX, rfl⟩
        · have g0 : 0 < q := by omega
          have HX : Hid (S ++ [44] = S ++ commaJ (q == 0)) := Lib.hid (by simp [commaJ, hq0])
          clear hq0
          go_wp2_with fail
          go_meet
          exact ⟨S ++ [44], rfl, by simp; omega, HX, rfl⟩
      case rest =>
        obtain ⟨S1, rfl, hS1, HS1, rfl⟩ := hcut
        obtain ⟨g, off, un, uk, hA⟩ := HKid.out q hlt
        obtain rfl := hA.a
        have HqI := Lib.hid (HQ1.out.trans HQI.out)
        have x0 : wa.cell? ⟨jb, 0, none⟩ = some (.int .i64 6) := by rw [cell_of_row _ _ _ _ _ _ HB1.out]; rfl
        have HIn : Hid ((Tryd.prog.info? 40).map (·.size) = some (cellJ (gK ks q) un uk).length) := Lib.hid (info_sz (gK ks q) un uk)
        have HKA := Lib.hid hA
        clear hA
        have HNw : Hid (nameW 6 ns q = []) := Lib.hid rfl
        obtain ⟨w2, hw2⟩ : ∃ w2, w2 = wa := ⟨_, rfl⟩
        have HQ2 : Hid (Q W1 w2) := by rw [hw2]; exact HQI
        have HqW : Hid (Q w w2) := by rw [hw2]; exact HqI
        rw [← hw2]
        rw [← hw2] at x3 x0
        clear hw2
        have HRg : Hid (w2.rangeAt g (off + q * 4) (cellJ (gK ks q) un uk)) := Lib.hid (fun j u hu => HqW.out.cell (HKA.out.rg j u hu))
        have HCl := Lib.hid (HIH.out q hlt w2 un uk (HKA.out.jv.q HqW.out))
        go_wp2_with (refine wpList_load_mid rfl 40 (.tmp 62) rfl g (off + q * 4) rfl (cellJ (gK ks q) un uk) _ HRg.out Tryd.underlying40 rfl HIn.out ?_; simp only [Act.put, List.setIfInBounds_toArray, List.set_cons_succ, List.set_cons_zero])
        refine HCl.out.mono ?_
        rintro e w3 ⟨u, rfl, hcu, hul, hq3⟩
        have HQ3 := Lib.hid (HQ2.out.trans hq3)
        have HNy : Hid (∀ S' : Txt, S' = S ++ (commaJ (q == 0) ++ (nameW 6 ns q ++ u)) → ToldI 6 ns ks (q + 1) (if 8000 < S'.length then S'.take 8001 else S') (b && numJ (gK ks q))) := Lib.hid (fun S' h => HNx.out u S' hcu h)
        obtain ⟨nb, hnb⟩ : ∃ nb, numJ (gK ks q) = nb := ⟨_, rfl⟩
        rw [hnb] at HNy ⊢
        clear hcu hnb hq3 HCl HRg HKA HNx x3
        cases b
        all_goals
          go_upto_region 29 with (fail)
          obtain ⟨S4, hS4⟩ : ∃ S4, S1 ++ u = S4 := ⟨_, rfl⟩
          rw [hS4]
          have hS4l : S4.length ≤ 14000000 := by rw [← hS4]; simp; omega
          have HNz := Lib.hid (HNy.out S4 (by rw [← hS4, HS1.out, HNw.out]; simp))
          clear HNy hS4 hul hS1
          by_cases h8 : 8000 < S4.length
          · have hz := HNz.out
            rw [if_pos h8] at hz
            have HN := Lib.hid hz
            have g8 : decide ((8000 : Int) < (S4.length : Int)) = true := by simp; omega
            have HS5 : Hid ((sub S4 0 8001).length ≤ 8001) := Lib.hid (by simp [sub]; omega)
            have h8b : 8001 ≤ S4.length := by omega
            clear HNz h8 hz
            go_wp2_with fail
            go_roundg (ks.length - (q + 1) + 1)
            case measure => omega
            case rel => exact ⟨q + 1, _, _, rfl, by omega, by simp, rfl, rfl, HS5.out, HN, HQ3⟩
          · have hz := HNz.out
            rw [if_neg h8] at hz
            have HN := Lib.hid hz
            have g8 : decide ((8000 : Int) < (S4.length : Int)) = false := by simp; omega
            have HS5 : Hid (S4.length ≤ 8001) := Lib.hid (by omega)
            clear HNz h8 hz
            go_wp2_with fail
            go_roundg (ks.length - (q + 1) + 1)
            case measure => omega
            case rel => exact ⟨q + 1, _, _, rfl, by omega, by simp, rfl, rfl, HS5.out, HN, HQ3⟩
    · have hdq : decide (q < ks.length) = false := by simpa using hlt
      have he : q = ks.length := by omega
      subst he
      obtain ⟨hc1, hc2, hc3⟩ := HI.out.done (t := t) (.inl rfl) 93 rfl
      have HX : Hid (ToldP (.mk 6 t ns ks) w (.returned (.tuple #[.string ⟨(S ++ [93]).toArray⟩, .bool b])) wa) := Lib.hid ⟨_, by rw [hc2], hc1, hc3, HQ1.out.trans HQI.out⟩
      clear hc1 hc2 hc3 HI HKid HIH hlt
      go_wp2_with fail
      go_ret2
      exact HX.out
set_option maxRecDepth 100000 in
set_option maxHeartbeats 8000000 in
theorem rtold_kids7 (t : Txt) (ns : List Txt) (ks : List JsonD) (d : Nat) (w : World) (vn vk : Value) (hj : JV w (.mk 7 t ns ks) vn vk) (hw : wfJ (.mk 7 t ns ks) d = true) (hb : bigJ 1100000 (.mk 7 t ns ks)) (hc : cntJ (.mk 7 t ns ks) ≤ 8000) (IH : TdKids ks) :
    Calls Tryd.prog 57 #[.agg (cellJ (.mk 7 t ns ks) vn vk).toArray] w (ToldP (.mk 7 t ns ks) w) := by
  have hcl := cnt_len ks
  rw [cntJ] at hc
  have hkl : ks.length ≤ 8000 := by omega
  have hns : NsV w vn ns := by rw [JV] at hj; exact hj.1
  obtain ⟨A, c, rfl, hc1, hc2, hkid⟩ := hj.kidAt
  obtain ⟨A1, c1, rfl, hn1, hn2, hn3⟩ := hns.at
  have HNk := Lib.hid (wf_obj hw)
  have HKid := Lib.hid hkid
  have HIH := Lib.hid IH
  have HN3 := Lib.hid hn3
  have HBig := Lib.hid (big_name2 hb)
  clear hkid IH hj hns hn3 hcl hc hb hw
  go_enter Tryd.func57, Tryd.ntmps57
  go_upto_region 1 with (fail)
  obtain ⟨W1, hW1⟩ : ∃ W1, w.alloc (.cells (cellJ (.mk 7 t ns ks) (.slice A1 ns.length c1) (.slice A ks.length c)).toArray 40) = W1 := ⟨_, rfl⟩
  have hr1 : W1.heap[w.heap.size]? = some (.cells (cellJ (.mk 7 t ns ks) (.slice A1 ns.length c1) (.slice A ks.length c)).toArray 40 (0, 0)) := by rw [← hW1]; exact heap_alloc_new w _
  have hq1 : Q w W1 := by rw [← hW1]; exact (Q.refl w).alloc _
  rw [hW1]
  obtain ⟨jb, hjb⟩ : ∃ jb, w.heap.size = jb := ⟨_, rfl⟩
  rw [hjb] at hr1 ⊢
  have HR1 := Lib.hid hr1
  have HQ1 := Lib.hid hq1
  have HT0 : Hid (ToldI 7 ns ks 0 [123] true) := Lib.hid (ToldI.start 7 ns ks 123 rfl)
  have x0 : W1.cell? ⟨jb, 0, none⟩ = some (.int .i64 7) := by rw [cell_of_row _ _ _ _ _ _ hr1]; rfl
  clear hW1 hr1 hq1 hjb
  go_wp2_with fail
  clear x0
  go_loopg [5, 7, 8] (ks.length + 1) (fun gk s al i wx => ∃ (q : Nat) (S : Txt) (b : Bool), gk = ks.length - q + 1 ∧ q ≤ ks.length ∧ i = .int .i64 (q : Int) ∧ s = .string ⟨S.toArray⟩ ∧ al = .bool b ∧ S.length ≤ 8001 ∧ Hid (ToldI 7 ns ks q S b) ∧ Hid (Q W1 wx))
  case atStart => exact ⟨0, [123], true, rfl, by omega, rfl, rfl, rfl, by simp, HT0, Lib.hid (Q.refl W1)⟩
  case round =>
    obtain ⟨q, S, b, rfl, hq, rfl, rfl, rfl, hS, HI, HQI⟩ := hrel
    rename World => wa
    have HB1 := Lib.hid (HQI.out.block HR1.out)
    have x3 : wa.cell? ⟨jb, 3, none⟩ = some (.slice A ks.length c) := by rw [cell_of_row _ _ _ _ _ _ HB1.out]; rfl
    by_cases hlt : q < ks.length
    · have hdq : decide (q < ks.length) = true := by simpa using hlt
      have HNx : Hid (∀ u S' : Txt, CutT u (writeJ (gK ks q)) → S' = S ++ (commaJ (q == 0) ++ (nameW 7 ns q ++ u)) → ToldI 7 ns ks (q + 1) (if 8000 < S'.length then S'.take 8001 else S') (b && numJ (gK ks q))) := Lib.hid (fun u S' h1 h2 => HI.out.next hlt h1 h2)
      clear HI
      go_upto_if 43 with (fail)
      go_cut [5] (fun s wx => ∃ S1 : Txt, s = .string ⟨S1.toArray⟩ ∧ S1.length ≤ 8002 ∧ Hid (S1 = S ++ commaJ (q == 0)) ∧ wa = wx)
      case first =>
        by_cases hq0 : q = 0
        · have g0 : ¬ 0 < q := by omega
          have HX : Hid (S = S ++ commaJ (q == 0)) := Lib.hid (by rw [hq0]; simp [commaJ])
          clear hq0
          go_wp2_with fail
          go_meet
          exact ⟨S, rfl, by omega, HX, rfl⟩
        · have g0 : 0 < q := by omega
          have HX : Hid (S ++ [44] = S ++ commaJ (q == 0)) := Lib.hid (by simp [commaJ, hq0])
          clear hq0
          go_wp2_with fail
          go_meet
          exact ⟨S ++ [44], rfl, by simp; omega, HX, rfl⟩
      case rest =>
        obtain ⟨S1, rfl, hS1, HS1, rfl⟩ := hcut
        obtain ⟨g, off, un, uk, hA⟩ := HKid.out q hlt
        obtain rfl := hA.a
        have HqI := Lib.hid (HQ1.out.trans HQI.out)
        have x0 : wa.cell? ⟨jb, 0, none⟩ = some (.int .i64 7) := by rw [cell_of_row _ _ _ _ _ _ HB1.out]; rfl
        have HIn : Hid ((Tryd.prog.info? 40).map (·.size) = some (cellJ (gK ks q) un uk).length) := Lib.hid (info_sz (gK ks q) un uk)
        have HKA := Lib.hid hA
        clear hA
        obtain ⟨gn, on, hAn, hcn⟩ := HN3.out q (by have := HNk.out; omega)
        subst hAn
        have y0 := HqI.out.cell hcn
        have x2 : wa.cell? ⟨jb, 2, none⟩ = some (.slice (some ⟨gn, on, none⟩) ns.length c1) := by rw [cell_of_row _ _ _ _ _ _ HB1.out]; rfl
        have hdn : q < ns.length := by have := HNk.out; omega
        obtain ⟨nm, hnm⟩ : ∃ nm, gL ns q = nm := ⟨_, rfl⟩
        have hnb := HBig.out q
        rw [hnm] at y0 hnb
        have HQu := Lib.hid (rquoted_any nm wa hnb)
        obtain ⟨QN, hQN⟩ : ∃ QN, quoteJ nm = QN := ⟨_, rfl⟩
        have hQl : QN.length ≤ 6600002 := by rw [← hQN]; have := quoteJ_len nm; omega
        rw [hQN] at HQu
        have HNw : Hid (nameW 7 ns q = QN ++ [58]) := Lib.hid (by unfold nameW; rw [if_pos rfl, hnm, hQN])
        clear hcn hnm hQN hnb
        go_wp2_with fail
        refine HQu.out.mono ?_
        rintro e w2 ⟨rfl, hq2⟩
        have x3 := hq2.cell x3
        have HQ2 := Lib.hid (HQI.out.trans hq2)
        have HqW := Lib.hid (HqI.out.trans hq2)
        clear x2 y0 x0 HQu hq2
        have HRg : Hid (w2.rangeAt g (off + q * 4) (cellJ (gK ks q) un uk)) := Lib.hid (fun j u hu => HqW.out.cell (HKA.out.rg j u hu))
        have HCl := Lib.hid (HIH.out q hlt w2 un uk (HKA.out.jv.q HqW.out))
        go_wp2_with (refine wpList_load_mid rfl 40 (.tmp 62) rfl g (off + q * 4) rfl (cellJ (gK ks q) un uk) _ HRg.out Tryd.underlying40 rfl HIn.out ?_; simp only [Act.put, List.setIfInBounds_toArray, List.set_cons_succ, List.set_cons_zero])
        refine HCl.out.mono ?_
        rintro e w3 ⟨u, rfl, hcu, hul, hq3⟩
        have HQ3 := Lib.hid (HQ2.out.trans hq3)
        have HNy : Hid (∀ S' : Txt, S' = S ++ (commaJ (q == 0) ++ (nameW 7 ns q ++ u)) → ToldI 7 ns ks (q + 1) (if 8000 < S'.length then S'.take 8001 else S') (b && numJ (gK ks q))) := Lib.hid (fun S' h => HNx.out u S' hcu h)
        obtain ⟨nb, hnb⟩ : ∃ nb, numJ (gK ks q) = nb := ⟨_, rfl⟩
        rw [hnb] at HNy ⊢
        clear hcu hnb hq3 HCl HRg HKA HNx x3
        cases b
        all_goals
          go_upto_region 29 with (fail)
          obtain ⟨S4, hS4⟩ : ∃ S4, S1 ++ (QN ++ 58 :: u) = S4 := ⟨_, rfl⟩
          rw [hS4]
          have hS4l : S4.length ≤ 14000000 := by rw [← hS4]; simp; omega
          have HNz := Lib.hid (HNy.out S4 (by rw [← hS4, HS1.out, HNw.out]; simp))
          clear HNy hS4 hul hS1
          by_cases h8 : 8000 < S4.length
          · have hz := HNz.out
            rw [if_pos h8] at hz
            have HN := Lib.hid hz
            have g8 : decide ((8000 : Int) < (S4.length : Int)) = true := by simp; omega
            have HS5 : Hid ((sub S4 0 8001).length ≤ 8001) := Lib.hid (by simp [sub]; omega)
            have h8b : 8001 ≤ S4.length := by omega
            clear HNz h8 hz
            go_wp2_with fail
            go_roundg (ks.length - (q + 1) + 1)
            case measure => omega
            case rel => exact ⟨q + 1, _, _, rfl, by omega, by simp, rfl, rfl, HS5.out, HN, HQ3⟩
          · have hz := HNz.out
            rw [if_neg h8] at hz
            have HN := Lib.hid hz
            have g8 : decide ((8000 : Int) < (S4.length : Int)) = false := by simp; omega
            have HS5 : Hid (S4.length ≤ 8001) := Lib.hid (by omega)
            clear HNz h8 hz
            go_wp2_with fail
            go_roundg (ks.length - (q + 1) + 1)
            case measure => omega
            case rel => exact ⟨q + 1, _, _, rfl, by omega, by simp, rfl, rfl, HS5.out, HN, HQ3⟩
    · have hdq : decide (q < ks.length) = false := by simpa using hlt
      have he : q = ks.length := by omega
      subst he
      obtain ⟨hc1, hc2, hc3⟩ := HI.out.done (t := t) (.inr rfl) 125 rfl
      have HX : Hid (ToldP (.mk 7 t ns ks) w (.returned (.tuple #[.string ⟨(S ++ [125]).toArray⟩, .bool b])) wa) := Lib.hid ⟨_, by rw [hc2], hc1, hc3, HQ1.out.trans HQI.out⟩
      clear hc1 hc2 hc3 HI HKid HIH hlt
      go_wp2_with fail
      go_ret2
      exact HX.out
end Go.Proofs.YtlhhiiemojhjdaaDoor
set_option linter.unusedVariables false
set_option linter.unusedSimpArgs false
namespace Go.Proofs.YtlhhiiemojhjdaaDoor
open Go Go.RowKit
set_option maxRecDepth 100000 in
theorem rtold_leaf (k : Int) (t : Txt) (ns : List Txt) (ks : List JsonD) (d : Nat) (w : World) (vn vk : Value) (hj : JV w (.mk k t ns ks) vn vk) (hw : wfJ (.mk k t ns ks) d = true) (hb : bigJ 1100000 (.mk k t ns ks)) (hk : k ≠ 6 ∧ k ≠ 7) :
    Calls Tryd.prog 57 #[.agg (cellJ (.mk k t ns ks) vn vk).toArray] w (ToldP (.mk k t ns ks) w) := by
  have hks := wf_leaf hw hk
  subst hks
  have hkk := wf_kind hw
  have htl : t.length ≤ 1100000 := by rw [bigJ] at hb; exact hb.1
  obtain ⟨⟨A1, n1, c1, rfl⟩, ⟨A2, n2, c2, rfl⟩⟩ := jv_slices hj
  have HNu := Lib.hid (fun W => rnumeral_any t W htl)
  have HQu := Lib.hid (fun W => rquoted_any t W htl)
  have HFin : Hid (∀ (s : Txt) (b : Bool) W, s = writeJ (.mk k t ns []) → b = numJ (.mk k t ns []) → s.length ≤ 6600002 → Q w W → ToldP (.mk k t ns []) w (.returned (.tuple #[.string ⟨s.toArray⟩, .bool b])) W) := Lib.hid (fun s b W h1 h2 h3 h4 => ⟨s, by rw [h2], .inl h1, h3, h4⟩)
  have hql := quoteJ_len t
  have HQl : Hid ((quoteJ t).length ≤ 6600002) := Lib.hid (by omega)
  clear hj hw hb hql
  go_enter Tryd.func57, Tryd.ntmps57
  go_upto_region 1 with (fail)
  obtain ⟨W1, hW1⟩ : ∃ W1, w.alloc (.cells (cellJ (.mk k t ns []) (.slice A1 n1 c1) (.slice A2 n2 c2)).toArray 40) = W1 := ⟨_, rfl⟩
  have hr1 : W1.heap[w.heap.size]? = some (.cells (cellJ (.mk k t ns []) (.slice A1 n1 c1) (.slice A2 n2 c2)).toArray 40 (0, 0)) := by rw [← hW1]; exact heap_alloc_new w _
  have hq1 : Q w W1 := by rw [← hW1]; exact (Q.refl w).alloc _
  rw [hW1]
  obtain ⟨jb, hjb⟩ : ∃ jb, w.heap.size = jb := ⟨_, rfl⟩
  rw [hjb] at hr1 ⊢
  have HQ1 := Lib.hid hq1
  have x0 : W1.cell? ⟨jb, 0, none⟩ = some (.int .i64 k) := by rw [cell_of_row _ _ _ _ _ _ hr1]; rfl
  have x1 : W1.cell? ⟨jb, 1, none⟩ = some (.string ⟨t.toArray⟩) := by rw [cell_of_row _ _ _ _ _ _ hr1]; rfl
  clear hW1 hr1 hq1 hjb
  have hkk : k = 1 ∨ k = 2 ∨ k = 3 ∨ k = 4 ∨ k = 5 := by omega
  clear hk
  rcases hkk with rfl | rfl | rfl | rfl | rfl
  · go_wp2_with fail
    go_ret2
    exact HFin.out [110, 117, 108, 108] true _ (by rw [writeJ, if_pos rfl]) (num_leaf (by decide)).symm (by decide) HQ1.out
  · go_wp2_with fail
    go_ret2
    exact HFin.out [102, 97, 108, 115, 101] true _ (by rw [writeJ, if_neg (by decide), if_pos rfl]) (num_leaf (by decide)).symm (by decide) HQ1.out
  · go_wp2_with fail
    go_ret2
    exact HFin.out [116, 114, 117, 101] true _ (by rw [writeJ, if_neg (by decide), if_neg (by decide), if_pos rfl]) (num_leaf (by decide)).symm (by decide) HQ1.out
  · go_wp2_with fail
    refine (HNu.out W1).mono ?_
    rintro e w2 ⟨rfl, hq2⟩
    have x1 := hq2.cell x1
    have HQ2 := Lib.hid (HQ1.out.trans hq2)
    obtain ⟨z, hz⟩ : ∃ z, isNumL t = z := ⟨_, rfl⟩
    have HZ := Lib.hid hz
    rw [hz]
    clear hq2 x0 hz
    go_wp2_with fail
    go_ret2
    exact HFin.out t z _ (by rw [writeJ, if_neg (by decide), if_neg (by decide), if_neg (by decide), if_pos rfl]) (by rw [num_four, HZ.out]) (by omega) HQ2.out
  · obtain ⟨z, hz⟩ : ∃ z, quoteJ t = z := ⟨_, rfl⟩
    have HZ := Lib.hid hz
    rw [hz] at HQu
    clear hz
    go_wp2_with fail
    refine (HQu.out W1).mono ?_
    rintro e w2 ⟨rfl, hq2⟩
    have HQ2 := Lib.hid (HQ1.out.trans hq2)
    clear hq2 x0 x1
    go_wp2_with fail
    go_ret2
    exact HFin.out z true _ (by rw [writeJ, if_neg (by decide), if_neg (by decide), if_neg (by decide), if_neg (by decide), if_pos rfl, HZ.out]) (num_leaf (by decide)).symm (by rw [← HZ.out]; exact HQl.out) HQ2.out
theorem rtold_all : ∀ (n : Nat) (j : JsonD), cntJ j ≤ n → ∀ (d : Nat), wfJ j d = true → cntJ j ≤ 8000 → bigJ 1100000 j → ∀ (w : World) (vn vk : Value), JV w j vn vk →
    Calls Tryd.prog 57 #[.agg (cellJ j vn vk).toArray] w (ToldP j w)
  | 0, j, hn, _, _, _, _, _, _, _, _ => absurd hn (by have := cnt_pos j; omega)
  | n + 1, .mk k t ns ks, hn, d, hw, hc, hb, w, vn, vk, hj => by
    have hn' := hn
    rw [cntJ] at hn'
    have hc' := hc
    rw [cntJ] at hc'
    have IH : TdKids ks := fun i hi W un uk hv => by
      obtain ⟨d', hd'⟩ := wf_kid hw hi
      have h1 := cnt_gK hi
      exact rtold_all n (gK ks i) (by omega) d' hd' (by omega) (big_kid hb hi) W un uk hv
    by_cases h6 : k = 6
    · subst h6; exact rtold_kids6 t ns ks d w vn vk hj hw hb hc IH
    · by_cases h7 : k = 7
      · subst h7; exact rtold_kids7 t ns ks d w vn vk hj hw hb hc IH
      · exact rtold_leaf k t ns ks d w vn vk hj hw hb ⟨h6, h7⟩
set_option maxRecDepth 100000 in
theorem rWrite_any (j : JsonD) (w : World) (vn vk : Value) (hj : JV w j vn vk) (hb : bigJ 1100000 j) :
    Calls Tryd.prog 30 #[.agg (cellJ j vn vk).toArray] w fun e w' => e = .returned (.tuple #[.string ⟨(writeR j).1.toArray⟩, .int .i64 (writeR j).2]) ∧ Q w w' := by
  have HR := Lib.hid (fun W (hq : Q w W) => rRight_any j W vn vk (hj.q hq) (bigJ_mono (by decide) _ hb))
  have HTo : Hid (∀ W, Q w W → rtB j 20 8000 = true → Calls Tryd.prog 57 #[.agg (cellJ j vn vk).toArray] W (ToldP j W)) := Lib.hid (fun W hq h => by
    obtain ⟨h1, h2⟩ := rt_wf h
    exact rtold_all (cntJ j) j (Nat.le_refl _) 20 h1 (by omega) hb W vn vk (hj.q hq))
  have HWrn : Hid (∀ e1 : rtB j 20 8000 = false ∨ numJ j = false, writeR j = ([], 54)) := Lib.hid (fun h => by
    unfold writeR
    rw [if_neg (fun x => by rcases h with h | h <;> (rw [h] at x; simp at x))])
  have HWry : Hid (rtB j 20 8000 = true → numJ j = true → writeR j = if 8000 < (writeJ j).length then ([], 56) else (writeJ j, 0)) := Lib.hid (fun h1 h2 => by
    unfold writeR
    rw [if_pos ⟨h1, h2⟩])
  obtain ⟨⟨A1, n1, c1, rfl⟩, ⟨A2, n2, c2, rfl⟩⟩ := jv_slices hj
  obtain ⟨R, hR⟩ : ∃ R, writeR j = R := ⟨_, rfl⟩
  rw [hR] at HWrn HWry
  rw [hR]
  have HSz := Lib.hid (info_sz j (.slice A1 n1 c1) (.slice A2 n2 c2))
  clear hj hb hR
  go_enter Tryd.func30, Tryd.ntmps30
  go_upto_region 1 with (fail)
  obtain ⟨W1, hW1⟩ : ∃ W1, w.alloc (.cells (cellJ j (.slice A1 n1 c1) (.slice A2 n2 c2)).toArray 40) = W1 := ⟨_, rfl⟩
  have hr1 : W1.heap[w.heap.size]? = some (.cells (cellJ j (.slice A1 n1 c1) (.slice A2 n2 c2)).toArray 40 (0, 0)) := by rw [← hW1]; exact heap_alloc_new w _
  have hq1 : Q w W1 := by rw [← hW1]; exact (Q.refl w).alloc _
  rw [hW1]
  obtain ⟨jb, hjb⟩ : ∃ jb, w.heap.size = jb := ⟨_, rfl⟩
  rw [hjb] at hr1 ⊢
  have HR1 := Lib.hid hr1
  have HQ1 := Lib.hid hq1
  clear hW1 hr1 hq1 hjb
  go_wp2_with (refine wpList_load_row rfl 40 (.tmp 1) rfl jb rfl 40 (cellJ j (.slice A1 n1 c1) (.slice A2 n2 c2)).toArray (0, 0) _ HR1.out Tryd.underlying40 rfl HSz.out ?_)
  refine (HR.out _ HQ1.out).mono ?_
  rintro e W2 ⟨rfl, hq2⟩
  have HR2 := Lib.hid (hq2.block HR1.out)
  have HQ2 := Lib.hid (HQ1.out.trans hq2)
  obtain ⟨p, hp⟩ : ∃ p, rtB j 20 8000 = p := ⟨_, rfl⟩
  have HP := Lib.hid hp
  rw [hp]
  clear hp hq2
  cases p with
  | false =>
    have HX := Lib.hid (HWrn.out (.inl HP.out))
    go_wp2_with fail
    go_ret2
    exact ⟨by rw [HX.out]; rfl, HQ2.out⟩
  | true =>
    have HCl := Lib.hid (HTo.out W2 HQ2.out HP.out)
    go_wp2_with (refine wpList_load_row rfl 40 (.tmp 1) rfl jb rfl 40 (cellJ j (.slice A1 n1 c1) (.slice A2 n2 c2)).toArray (0, 0) _ HR2.out Tryd.underlying40 rfl HSz.out ?_)
    refine HCl.out.mono ?_
    rintro e W3 ⟨s, rfl, hcs, hsl, hq3⟩
    have HQ3 := Lib.hid (HQ2.out.trans hq3)
    have HCs := Lib.hid hcs
    obtain ⟨r, hr⟩ : ∃ r, numJ j = r := ⟨_, rfl⟩
    have HN := Lib.hid hr
    rw [hr]
    clear hr hcs hq3 HCl
    cases r with
    | false =>
      have HX := Lib.hid (HWrn.out (.inr HN.out))
      go_wp2_with fail
      go_ret2
      exact ⟨by rw [HX.out]; rfl, HQ3.out⟩
    | true =>
      have HX := Lib.hid (HWry.out HP.out HN.out)
      by_cases hlen : 8000 < s.length
      · have g1 : decide ((8000 : Int) < (s.length : Int)) = true := by simp; omega
        have HX2 : Hid (R = ([], 56)) := Lib.hid (by rw [HX.out, if_pos ((cut_len HCs.out).1 hlen)])
        go_wp2_with fail
        go_ret2
        exact ⟨by rw [HX2.out]; rfl, HQ3.out⟩
      · have g1 : decide ((8000 : Int) < (s.length : Int)) = false := by simp; omega
        have hnl : ¬ 8000 < (writeJ j).length := fun h => hlen ((cut_len HCs.out).2 h)
        have HX2 : Hid (R = (s, 0)) := Lib.hid (by rw [HX.out, if_neg hnl, cut_all HCs.out hnl])
        clear hnl
        go_wp2_with fail
        go_ret2
        exact ⟨by rw [HX2.out]; rfl, HQ3.out⟩
end Go.Proofs.YtlhhiiemojhjdaaDoor
