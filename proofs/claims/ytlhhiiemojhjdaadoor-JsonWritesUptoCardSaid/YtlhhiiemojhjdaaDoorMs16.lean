/- Texts of this proof, laid into one: LaV, LaW, LbA, LbC, LbD, KeE, LbB. -/
import Derived.Test.YtlhhiiemojhjdaaDoorMs15
import Derived.Maps.AppendAt
import Derived.Test.YtlhhiiemojhjdaaDoorRows
import Derived.SizedLaws
import Derived.Deep.Slices
set_option linter.unusedVariables false
set_option linter.unusedSimpArgs false
namespace Go.Proofs.YtlhhiiemojhjdaaDoor
open Go Go.RowKit
def SpKids (ks : List JsonD) : Prop := ∀ i, i < ks.length → ∀ W l h un uk, JO W (gK ks i) l h un uk → h ≤ W.heap.size → Calls Tryd.prog 27 #[.agg (cellJ (gK ks i) un uk).toArray] W fun e w' => e = .returned (.tuple #[]) ∧ GI l h W w'
theorem range_rest {W : World} {g q n : Nat} {cur : Array Value} {t : TypeId} {fr : Nat × Nat} {cs rest' : List Value} (h : W.heap[g]? = some (.cells cur t fr)) (hr : (cur.toList.drop (q * 4)).take n = cs ++ rest') : W.rangeAt g (q * 4) cs := fun j u hu => by
  have hj := (List.getElem?_eq_some_iff.1 hu).1
  rw [cell_of_row _ _ _ _ _ _ h, ← Array.getElem?_toList]
  have e : (cs ++ rest')[j]? = some u := by rw [List.getElem?_append_left hj]; exact hu
  rw [← hr, List.getElem?_take] at e
  split at e
  · rw [List.getElem?_drop] at e; exact e
  · cases e
def NmR (g n : Nat) (W : World) : Prop := ∃ cur, W.heap[g]? = some (.cells cur 9 (0, 0)) ∧ n ≤ cur.size
set_option maxRecDepth 100000 in
set_option maxHeartbeats 4000000 in
theorem spoil_step (k : Int) (t : Txt) (ns : List Txt) (ks : List JsonD) (lo hi : Nat) (w : World) (vn vk : Value) (hj : JO w (.mk k t ns ks) lo hi vn vk) (hh : hi ≤ w.heap.size) (hnl : ns.length ≤ 9223372036854775807) (hkl : ks.length ≤ 9223372036854775807) (IH : SpKids ks) :
    Calls Tryd.prog 27 #[.agg (jsonC k t vn vk).toArray] w fun e w' => e = .returned (.tuple #[]) ∧ GI lo hi w w' := by
  have hj0 := hj
  rw [JO] at hj
  obtain ⟨hlh, hn, hnb, hkb, cells, hk, hks⟩ := hj
  have HIH := Lib.hid IH
  obtain ⟨A, c, hvn, hc1, hc2, -⟩ := row_cells hn (by simp)
  obtain ⟨B, c', hvk, hc3, hc4, -⟩ := row_cells hk hk.1
  have HNm : Hid (0 < ns.length → ∃ g, vn = .slice (some ⟨g, 0, none⟩) ns.length c ∧ lo ≤ g ∧ g < hi ∧ NmR g ns.length w) := Lib.hid (fun h0 => by
    rcases hn.2 with ⟨_, h⟩ | ⟨g, cap, cur, h1, h2, h3, h4, h5, h6, h7⟩
    · omega
    · have e := hvn.symm.trans h1
      injection e with e1 _ e2
      subst e1
      refine ⟨g, hvn, h2, hnb g (by rw [hvn]; rfl), cur, h3, by omega⟩)
  have HKm : Hid (0 < ks.length → ∃ g cur, vk = .slice (some ⟨g, 0, none⟩) ks.length c' ∧ lo ≤ g ∧ g < hi ∧ w.heap[g]? = some (.cells cur 40 (0, 0)) ∧ cur.size = c' * 4 ∧ cur.toList.take (ks.length * 4) = cells) := Lib.hid (fun h0 => by
    rcases hk.2 with ⟨_, h⟩ | ⟨g, cap, cur, h1, h2, h3, h4, h5, h6, h7⟩
    · omega
    · have e := hvk.symm.trans h1
      injection e with e1 _ e2
      subst e1
      subst e2
      exact ⟨g, cur, hvk, h2, hkb g (by rw [hvk]; rfl), h3, h6, h7⟩)
  have HKs := Lib.hid hks
  have HNb := Lib.hid hnb
  have HN0 : Hid (∀ g cur, vn.ownBlock = some g → w.heap[g]? = some (.cells cur 40 (0, 0)) → False) := Lib.hid (fun g cur e h => by
    rcases hn.2 with ⟨e1, _⟩ | ⟨g1, c1, cur1, e1, _, e3, _⟩
    · rw [e1] at e; cases e
    · rw [e1] at e
      simp [Value.ownBlock] at e
      subst e
      rw [e3] at h
      injection h with h
      injection h with _ h _
      exact absurd h (by decide))
  have HKb := Lib.hid hkb
  clear hj0 hn hk hks hnb hkb
  subst hvn
  subst hvk
  go_enter Tryd.func27, Tryd.ntmps27
  go_upto_region 2 with (fail)
  obtain ⟨W1, hW1⟩ : ∃ W1, w.alloc (.cells (jsonC k t (.slice A ns.length c) (.slice B ks.length c')).toArray 40) = W1 := ⟨_, rfl⟩
  have hr1 : W1.heap[w.heap.size]? = some (.cells (jsonC k t (.slice A ns.length c) (.slice B ks.length c')).toArray 40 (0, 0)) := by rw [← hW1]; exact heap_alloc_new w _
  have hq1 : Q w W1 := by rw [← hW1]; exact (Q.refl w).alloc _
  rw [hW1]
  obtain ⟨jb, hjb⟩ : ∃ jb, w.heap.size = jb := ⟨_, rfl⟩
  rw [hjb] at hr1 hh ⊢
  have HR1 := Lib.hid hr1
  have HQ1 := Lib.hid hq1
  clear hW1 hr1 hq1 hjb
  go_loopg [2] (ns.length + 1) (fun gk i wx => ∃ q : Nat, gk = ns.length - q + 1 ∧ q ≤ ns.length ∧ i = .int .i64 (q : Int) ∧ Hid ((∀ b, b < W1.heap.size → (∀ g, (Value.slice A ns.length c).ownBlock = some g → b ≠ g) → wx.heap[b]? = W1.heap[b]?) ∧ GI lo hi w wx ∧ (∀ g, 0 < ns.length → (Value.slice A ns.length c).ownBlock = some g → NmR g ns.length wx) ∧ W1.heap.size ≤ wx.heap.size))
  case atStart => exact ⟨0, rfl, by omega, rfl, Lib.hid ⟨fun _ _ _ => rfl, GI.q HQ1.out, fun g h0 hg => by
    obtain ⟨g', e, _, _, cur, h1, h2⟩ := HNm.out h0
    rw [e] at hg
    simp [Value.ownBlock] at hg
    subst hg
    exact ⟨cur, HQ1.out.block h1, h2⟩, Nat.le_refl _⟩⟩
  case round =>
    obtain ⟨q, rfl, hq, rfl, HI⟩ := hrel
    rename World => wa
    by_cases hlt : q < ns.length
    · have hdq : decide (q < ns.length) = true := by simpa using hlt
      obtain ⟨g, e1, hg1, hg2, -⟩ := HNm.out (by omega)
      injection e1 with e1 _ _
      subst e1
      obtain ⟨hf, hgi, hnr, hsz⟩ := HI.out
      obtain ⟨cur, hc, hcs⟩ := hnr g (by omega) rfl
      have hb : wa.heap[jb]? = some (.cells (jsonC k t (.slice (some ⟨g, 0, none⟩) ns.length c) (.slice B ks.length c')).toArray 40 (0, 0)) := (hf jb (lt_of_heap HR1.out) (fun g' e => by simp [Value.ownBlock] at e; omega)).trans HR1.out
      have c2 : wa.cell? ⟨jb, 2, none⟩ = some (.slice (some ⟨g, 0, none⟩) ns.length c) := by rw [cell_of_row _ _ _ _ _ _ hb]; rfl
      have hcx : wa.cell? ⟨g, q, none⟩ = some cur[q] := by rw [cell_of_row _ _ _ _ _ _ hc, Array.getElem?_eq_getElem (by omega)]
      have hfx := frozen_of_row wa g q _ _ hc
      obtain ⟨cv, hcv⟩ : ∃ cv, cur[q] = cv := ⟨_, rfl⟩
      rw [hcv] at hcx
      have HN : Hid ((∀ b, b < W1.heap.size → (∀ g', (Value.slice (some ⟨g, 0, none⟩) ns.length c).ownBlock = some g' → b ≠ g') → (wa.setCell ⟨g, q, none⟩ (.string ⟨#[63]⟩)).heap[b]? = W1.heap[b]?) ∧ GI lo hi w (wa.setCell ⟨g, q, none⟩ (.string ⟨#[63]⟩)) ∧ (∀ g', 0 < ns.length → (Value.slice (some ⟨g, 0, none⟩) ns.length c).ownBlock = some g' → NmR g' ns.length (wa.setCell ⟨g, q, none⟩ (.string ⟨#[63]⟩))) ∧ W1.heap.size ≤ (wa.setCell ⟨g, q, none⟩ (.string ⟨#[63]⟩)).heap.size) := Lib.hid (by
        refine ⟨fun b h1 h2 => ?_, hgi.gx ((GX.refl [g] wa).set (by simp) _ _) hg1 hg2, fun g' h0 e => ?_, by simpa using hsz⟩
        · rw [heap_setCell_other wa ⟨g, q, none⟩ b _ (h2 g rfl)]; exact hf b h1 h2
        · simp [Value.ownBlock] at e
          subst e
          exact ⟨_, heap_setCell_any wa g q _ _ _ _ hc, by simpa using hcs⟩)
      clear HI hf hgi hnr hsz hc hcs hb hcv
      go_wp2_with fail
      go_roundg (ns.length - (q + 1) + 1)
      case measure => omega
      case rel => exact ⟨q + 1, rfl, by omega, by simp, HN⟩
    · have hdq : decide (q < ns.length) = false := by simpa using hlt
      obtain ⟨hf, hgi, hnr, hsz⟩ := HI.out
      have hb : wa.heap[jb]? = some (.cells (jsonC k t (.slice A ns.length c) (.slice B ks.length c')).toArray 40 (0, 0)) := (hf jb (lt_of_heap HR1.out) (fun g' e => by have := HNb.out g' e; omega)).trans HR1.out
      have c2 : wa.cell? ⟨jb, 2, none⟩ = some (.slice A ns.length c) := by rw [cell_of_row _ _ _ _ _ _ hb]; rfl
      have c3 : wa.cell? ⟨jb, 3, none⟩ = some (.slice B ks.length c') := by rw [cell_of_row _ _ _ _ _ _ hb]; rfl
      obtain ⟨X, hX⟩ : ∃ X : Nat → Prop, (fun b => (Value.slice A ns.length c).ownBlock = some b ∨ (Value.slice B ks.length c').ownBlock = some b) = X := ⟨_, rfl⟩
      have HXk : Hid (∀ b, (Value.slice B ks.length c').ownBlock = some b → X b) := Lib.hid (fun b e => by rw [← hX]; exact .inr e)
      have HKm2 : Hid (0 < ks.length → ∃ g, Value.slice B ks.length c' = .slice (some ⟨g, 0, none⟩) ks.length c' ∧ lo ≤ g ∧ g < hi ∧ SpK X ks g c' lo hi 0 wa) := Lib.hid (fun h0 => by
        obtain ⟨g, cur, e, h1, h2, h3, h4, h5⟩ := HKm.out h0
        have hks := HKs.out
        rw [hX] at hks
        have hle := HQ1.out.size
        have hfr : ∀ b, b < w.heap.size → ¬ X b → wa.heap[b]? = w.heap[b]? := fun b h6 h7 => by
          rw [hf b (by omega) (fun g' e' he => h7 (by rw [← hX, he]; exact .inl e'))]
          exact Below.block HQ1.out b h6
        have hrow : wa.heap[g]? = some (.cells cur 40 (0, 0)) := by
          rw [hf g (by have := lt_of_heap h3; omega) (fun g' e' he => HN0.out g' cur e' (he ▸ h3))]
          exact HQ1.out.block h3
        refine ⟨g, e, h1, h2, ⟨cur, cells, hrow, h4, ?_, ?_⟩, hc3⟩
        · rw [Nat.zero_mul, List.drop_zero, Nat.sub_zero]; exact h5
        · rw [List.drop_zero]
          exact JOK.frameX (fun b _ _ hx hs => hfr b hs hx) hks)
      have HB0 := Lib.hid hb
      have HGI := Lib.hid hgi
      have HSz := Lib.hid hsz
      clear hlt hf hgi hnr hsz hb HI hX
      go_upto_region 6 with (fail)
      clear c2 c3 hdq
      go_loopg [3] (ks.length + 1) (fun gk i wx => ∃ (q lo' : Nat), gk = ks.length - q + 1 ∧ q ≤ ks.length ∧ i = .int .i64 (q : Int) ∧ Hid (GI lo hi w wx ∧ wx.heap[jb]? = some (.cells (jsonC k t (.slice A ns.length c) (.slice B ks.length c')).toArray 40 (0, 0)) ∧ lo ≤ lo' ∧ (q < ks.length → ∃ g, Value.slice B ks.length c' = .slice (some ⟨g, 0, none⟩) ks.length c' ∧ lo ≤ g ∧ g < hi ∧ SpK X ks g c' lo' hi q wx)))
      case atStart => exact ⟨0, lo, rfl, by omega, rfl, Lib.hid ⟨HGI.out, HB0.out, Nat.le_refl _, HKm2.out⟩⟩
      case round =>
        obtain ⟨q, lo', rfl, hq, rfl, HI⟩ := hrel
        rename World => wb
        have c3 : wb.cell? ⟨jb, 3, none⟩ = some (.slice B ks.length c') := by rw [cell_of_row _ _ _ _ _ _ HI.out.2.1]; rfl
        by_cases hlt : q < ks.length
        · have hdq : decide (q < ks.length) = true := by simpa using hlt
          obtain ⟨g, e1, hg1, hg2, hsp⟩ := HI.out.2.2.2 hlt
          injection e1 with e1 _ _
          subst e1
          obtain ⟨⟨cur, rest, hrow, hcs, hrest, hjk⟩, hle⟩ := hsp
          obtain ⟨un, uk, rest', l, h', rfl, a1, a2, a3, a4, a5, a6⟩ := jok_cons hlt hjk
          have hjb := lt_of_heap HI.out.2.1
          have HRg := Lib.hid (range_rest hrow hrest)
          have HCl := Lib.hid (HIH.out q hlt wb l h' un uk a5 (by omega))
          have HIn : Hid ((Tryd.prog.info? 40).map (·.size) = some (cellJ (gK ks q) un uk).length) := Lib.hid (info_sz (gK ks q) un uk)
          have HSz4 := Lib.hid (rowJ_sz (-5) [] (.slice none 0 0) (.slice none 0 0))
          have HOne := Lib.hid (rowJ_one (k := -5) (t := []) (un := .slice none 0 0) (uk := .slice none 0 0) ⟨_, _, _, rfl⟩ ⟨_, _, _, rfl⟩)
          have HNx : Hid (∀ W', GI l h' wb W' → (W'.heap[jb]? = some (.cells (jsonC k t (.slice A ns.length c) (.slice (some ⟨g, 0, none⟩) ks.length c')).toArray 40 (0, 0))) ∧ W'.there g (q * 4) 4 ∧ GI lo hi w (W'.setCells g (q * 4) (jsonC (-5) [] (.slice none 0 0) (.slice none 0 0))) ∧ (W'.setCells g (q * 4) (jsonC (-5) [] (.slice none 0 0) (.slice none 0 0))).heap[jb]? = some (.cells (jsonC k t (.slice A ns.length c) (.slice (some ⟨g, 0, none⟩) ks.length c')).toArray 40 (0, 0)) ∧ SpK X ks g c' h' hi (q + 1) (W'.setCells g (q * 4) (jsonC (-5) [] (.slice none 0 0) (.slice none 0 0)))) := Lib.hid (fun W' hw => by
            obtain ⟨s1, s2, s3⟩ := spk_next (lo := lo) (vs := jsonC (-5) [] (.slice none 0 0) (.slice none 0 0)) (HXk.out g rfl) hlt hle hrow hcs hrest a4 a6 hw rfl
            refine ⟨(hw.block jb hjb (.inr (by omega))).trans HI.out.2.1, there_row s2 (by omega), ?_, (s3 jb hjb (.inr (by omega)) (by omega)).trans HI.out.2.1, s1⟩
            exact (HI.out.1.trans (hw.widen (by have := HI.out.2.2.1; omega) a3)).gx (GX.gb (setCells_gb g _ _ _) (by simp)) hg1 hg2)
          have hlo : lo ≤ h' := by have := HI.out.2.2.1; omega
          clear hrow hrest hjk a1 a2 a3 a4 a5 a6 hcs HI
          go_wp2_with (refine wpList_load_mid rfl 40 (.tmp 25) rfl g (q * 4) rfl (cellJ (gK ks q) un uk) _ HRg.out Tryd.underlying40 rfl HIn.out ?_; simp only [Act.put, List.setIfInBounds_toArray, List.set_cons_succ, List.set_cons_zero])
          refine HCl.out.mono ?_
          rintro e W2 ⟨rfl, hg3⟩
          obtain ⟨n1, n2, n3, n4, n5⟩ := HNx.out W2 hg3
          have HTh := Lib.hid n2
          have HN := Lib.hid (And.intro n3 (And.intro n4 n5))
          have c3 : W2.cell? ⟨jb, 3, none⟩ = some (.slice (some ⟨g, 0, none⟩) ks.length c') := by rw [cell_of_row _ _ _ _ _ _ n1]; rfl
          clear n1 n2 n3 n4 n5 hg3 HCl HNx
          go_wp2_with (refine wpList_store_mid rfl 40 (.tmp 32) (.tmp 31) rfl g (q * 4) (jsonC (-5) [] (.slice none 0 0) (.slice none 0 0)).toArray rfl rfl HTh.out HSz4.out HOne.out ?_)
          go_roundg (ks.length - (q + 1) + 1)
          case measure => omega
          case rel => exact ⟨q + 1, h', rfl, by omega, by simp, Lib.hid ⟨HN.out.1, HN.out.2.1, hlo, fun _ => ⟨g, rfl, hg1, hg2, HN.out.2.2⟩⟩⟩
        · have hdq : decide (q < ks.length) = false := by simpa using hlt
          have HX := Lib.hid HI.out.1
          clear HI
          go_wp2_with fail
          go_end0
          exact ⟨rfl, HX.out⟩
end Go.Proofs.YtlhhiiemojhjdaaDoor
set_option linter.unusedVariables false
set_option linter.unusedSimpArgs false
namespace Go.Proofs.YtlhhiiemojhjdaaDoor
open Go Go.RowKit
theorem spoil_all : ∀ (n : Nat) (j : JsonD), cntJ j ≤ n → ∀ (lo hi : Nat) (w : World) (vn vk : Value), JO w j lo hi vn vk → hi ≤ w.heap.size →
    Calls Tryd.prog 27 #[.agg (cellJ j vn vk).toArray] w fun e w' => e = .returned (.tuple #[]) ∧ GI lo hi w w'
  | 0, j, hn, _, _, _, _, _, _, _ => absurd hn (by have := cnt_pos j; omega)
  | n + 1, .mk k t ns ks, hn, lo, hi, w, vn, vk, hj, hh => by
    rw [cntJ] at hn
    have hj0 := hj
    rw [JO] at hj0
    obtain ⟨_, h1, _, _, cells, h2, _⟩ := hj0
    obtain ⟨A, c, _, a1, a2, _⟩ := row_cells h1 (by simp)
    obtain ⟨B, d, _, b1, b2, _⟩ := row_cells h2 h2.1
    have hm : maxLen ≤ 9223372036854775807 := by decide
    exact spoil_step k t ns ks lo hi w vn vk hj hh (by omega) (by omega) (fun i hi' W l h un uk hk hs => by
      have hc := cnt_gK hi'
      exact spoil_all n (gK ks i) (by omega) l h W un uk hk hs)
end Go.Proofs.YtlhhiiemojhjdaaDoor
set_option linter.unusedVariables false
set_option linter.unusedSimpArgs false
namespace Go.Proofs.YtlhhiiemojhjdaaDoor
open Go Go.RowKit
theorem CutT.app {l f l2 f2 : Txt} (h : CutT l f) (h2 : CutT l2 f2) : CutT (l ++ l2) (f ++ f2) := by
  unfold CutT at *
  simp only [List.length_append]
  rcases h with rfl | h
  · rcases h2 with rfl | h2
    · exact .inl rfl
    · right; omega
  · right; omega
theorem CutT.same (l : Txt) : CutT l l := .inl rfl
theorem CutT.cut {l f : Txt} (h : CutT l f) (hl : 8000 < l.length) : CutT (l.take 8001) f := by
  have := (cut_len h).1 hl
  right; rw [List.length_take]; omega
theorem escL_len (s : Txt) : (escL s).length ≤ 6 * s.length := by
  induction s with
  | nil => simp [escL]
  | cons b t ih => rw [escL_cons, List.length_append, List.length_cons]; have := escB_len b; omega
theorem quoteJ_len (s : Txt) : (quoteJ s).length ≤ 6 * s.length + 2 := by
  unfold quoteJ
  have := escL_len s
  simp; omega
def ToldI (k : Int) (ns : List Txt) (ks : List JsonD) (i : Nat) (s : Txt) (all : Bool) : Prop := CutT s (partW k ns ks i) ∧ s.length ≤ 8001 ∧ all = numKs (ks.take i)
theorem ToldI.start (k : Int) (ns : List Txt) (ks : List JsonD) (c : UInt8) (hc : c = if k = 7 then 123 else 91) : ToldI k ns ks 0 [c] true := by
  subst hc
  refine ⟨.inl ?_, by simp, by rw [List.take_zero, numKs]⟩
  unfold partW
  rw [List.take_zero, writeKs, writePs]
  by_cases hk : k = 7
  · rw [if_pos hk, if_pos hk]
  · rw [if_neg hk, if_neg hk]
theorem ToldI.next {k : Int} {ns : List Txt} {ks : List JsonD} {i : Nat} {s u s' : Txt} {all : Bool} (h : ToldI k ns ks i s all) (hi : i < ks.length) (hu : CutT u (writeJ (gK ks i))) (hs : s' = s ++ (commaJ (i == 0) ++ (nameW k ns i ++ u))) :
    ToldI k ns ks (i + 1) (if 8000 < s'.length then s'.take 8001 else s') (all && numJ (gK ks i)) := by
  obtain ⟨h1, h2, h3⟩ := h
  have hc : CutT s' (partW k ns ks (i + 1)) := by
    rw [hs, partW_next k ns ks i hi]
    exact h1.app ((CutT.same _).app ((CutT.same _).app hu))
  refine ⟨?_, ?_, by rw [h3, numKs_take ks i hi]⟩
  · split
    · next hl => exact hc.cut hl
    · exact hc
  · split
    · rw [List.length_take]; omega
    · omega
theorem ToldI.done {k : Int} {t : Txt} {ns : List Txt} {ks : List JsonD} {s : Txt} {all : Bool} (h : ToldI k ns ks ks.length s all) (hk : k = 6 ∨ k = 7) (c : UInt8) (hc : c = if k = 7 then 125 else 93) :
    CutT (s ++ [c]) (writeJ (.mk k t ns ks)) ∧ all = numJ (.mk k t ns ks) ∧ (s ++ [c]).length ≤ 6600002 := by
  subst hc
  obtain ⟨h1, h2, h3⟩ := h
  rw [List.take_length] at h3
  have e : writeJ (.mk k t ns ks) = partW k ns ks ks.length ++ [if k = 7 then 125 else 93] := by
    rw [writeJ]
    unfold partW
    rw [List.take_length]
    rcases hk with rfl | rfl
    · simp
    · simp
  refine ⟨by rw [e]; exact h1.app (CutT.same _), ?_, by simp; omega⟩
  rw [numJ, h3]
  have : k ≠ 4 := by omega
  simp [this]
def ToldP (j : JsonD) (w : World) (e : Ending) (w' : World) : Prop := ∃ s, e = .returned (.tuple #[.string ⟨s.toArray⟩, .bool (numJ j)]) ∧ CutT s (writeJ j) ∧ s.length ≤ 6600002 ∧ Q w w'
def okEnd : PR Unit → Bool
  | .ok _ [] => true
  | _ => false
theorem numeral_is {t : Txt} {r : PR Unit} (h : numR t = r) : isNumL t = okEnd r := by
  unfold isNumL; rw [h]; rfl
theorem wf_more : ∀ (n : Nat) (j : JsonD), cntJ j ≤ n → ∀ (d e : Nat), d ≤ e → wfJ j d = true → wfJ j e = true
  | 0, j, hn, _, _, _, _ => absurd hn (by have := cnt_pos j; omega)
  | n + 1, .mk k t ns ks, hn, d, e, hd, h => by
    rw [cntJ] at hn
    have hk : ∀ l : List JsonD, cntKs l ≤ n → wfKs l (d - 1) = true → wfKs l (e - 1) = true := by
      intro l
      induction l with
      | nil => intro _ _; rw [wfKs]
      | cons x r ih =>
        intro h1 h2
        rw [cntKs] at h1
        rw [wfKs] at h2 ⊢
        simp only [Bool.and_eq_true] at h2 ⊢
        exact ⟨wf_more n x (by omega) (d - 1) (e - 1) (by omega) h2.1, ih (by omega) h2.2⟩
    have hk := hk ks (by omega)
    rw [wfJ] at h ⊢
    split
    · next h1 => rw [if_pos h1] at h; exact h
    · next h1 =>
      rw [if_neg h1] at h
      split
      · next h2 => rw [if_pos h2] at h; exact h
      · next h2 =>
        rw [if_neg h2] at h
        split
        · next h3 => rw [if_pos h3] at h; exact h
        · next h3 =>
          rw [if_neg h3] at h
          split
          · next h4 =>
            rw [if_pos h4] at h
            simp only [Bool.and_eq_true, decide_eq_true_eq] at h ⊢
            exact ⟨⟨h.1.1, by omega⟩, hk h.2⟩
          · next h4 =>
            rw [if_neg h4] at h
            split
            · next h5 =>
              rw [if_pos h5] at h
              simp only [Bool.and_eq_true, decide_eq_true_eq] at h ⊢
              exact ⟨⟨h.1.1, by omega⟩, hk h.2⟩
            · next h5 => rw [if_neg h5] at h; cases h
theorem rt_of {j : JsonD} {d : Nat} {L : Int} (h1 : wfJ j d = true) (h2 : (cntJ j : Int) ≤ L) : rtB j d L = true := by
  unfold rtB
  simp only [Bool.and_eq_true, decide_eq_true_eq]
  exact ⟨h1, h2⟩
theorem wfKs_at {d : Nat} : ∀ {ks : List JsonD} {i : Nat}, wfKs ks d = true → i < ks.length → wfJ (gK ks i) d = true
  | [], i, _, hi => absurd hi (by simp)
  | j :: r, 0, h, _ => by rw [wfKs] at h; simp only [Bool.and_eq_true] at h; exact h.1
  | j :: r, i + 1, h, hi => by rw [wfKs] at h; simp only [Bool.and_eq_true] at h; exact wfKs_at (ks := r) h.2 (by simpa using hi)
theorem find_right {j : JsonD} {x : Txt} (h : (findJ j x).2 = true) : rtB (findJ j x).1 20 8000 = true := by
  unfold findJ at h ⊢
  split at h
  · next hh =>
    rw [if_pos hh]
    obtain ⟨k, t, ns, ks⟩ := j
    obtain ⟨h1, h2, h3⟩ := hh
    have h1 : k = 7 := h1
    subst h1
    have h3 : 0 ≤ ixN x ns 0 := h3
    obtain ⟨hw, hc⟩ := rt_wf h2
    have hb := ixN_bound x ns 0 h3
    have hl := wf_obj hw
    have hi : (ixN x ns 0).toNat < ks.length := by omega
    have hcc := cnt_gK hi
    rw [cntJ] at hc
    have hk : wfJ (gK ks (ixN x ns 0).toNat) 19 = true := by
      rw [wfJ, if_neg (by decide), if_neg (by decide), if_neg (by decide), if_neg (by decide), if_pos rfl] at hw
      simp only [Bool.and_eq_true] at hw
      exact wfKs_at hw.2 hi
    show rtB (gK ks (ixN x ns 0).toNat) 20 8000 = true
    exact rt_of (wf_more _ _ (Nat.le_refl _) 19 20 (by omega) hk) (by omega)
  · cases h
end Go.Proofs.YtlhhiiemojhjdaaDoor
set_option linter.unusedVariables false
set_option linter.unusedSimpArgs false
namespace Go.Proofs.YtlhhiiemojhjdaaDoor
open Go Go.RowKit
theorem run_append_ns (w : World) (vn : Value) (ns : List Txt) (ty : TypeId) (h : NsV w vn ns) (hl : ns.length ≤ 1000000000) :
    ∃ v' w', (Builtin.append_ #[23, 23] ty #[.slice none 0 0, vn]).run Tryd.prog w = .ok v' w' ∧ w'.ownsRow w.heap.size 9 1 v' ns.length (ns.map strV) ∧ Q w w' := by
  obtain ⟨A, c, rfl, h1, h2, h3⟩ := h
  obtain ⟨i, hi, hz, hsz, hby⟩ := info_parts info_str
  cases A with
  | none =>
    have h0 : ns = [] := by
      rcases Nat.eq_zero_or_pos ns.length with h | h
      · exact List.eq_nil_of_length_eq_zero h
      · obtain ⟨g, off, e, _⟩ := h3 h; cases e
    subst h0
    refine ⟨.slice none 0 0, w, ?_, World.ownsRow_nil _ _ _ _, Q.refl w⟩
    simp [Builtin.append_, run_underlying Tryd.underlying23, sizeOf, typeInfo, hi, Builtin.lenOf, Builtin.firstCells]
  | some ad =>
    obtain ⟨v', w', r1, r2, r3, _, r5⟩ := run_append_own_at (P := Tryd.prog) w w.heap.size 23 ty 9 i _ 1 16 Tryd.underlying23 hi hz hsz hby rfl (by decide) (.slice none 0 0) 0 [] (World.ownsRow_nil _ _ _ _) ad ns.length c (ns.map strV) (by simp) (fun j u hu => by
      have hj : j < ns.length := by have := (List.getElem?_eq_some_iff.1 hu).1; simpa using this
      obtain ⟨g, off, e, hc⟩ := h3 (by omega)
      rw [Option.some.inj e, add_off, hc j hj]
      rw [List.getElem?_map, List.getElem?_eq_getElem hj] at hu
      rw [← hu]
      simp [strV, gL, List.getD, hj]) (fun u hu => by
      obtain ⟨x, _, rfl⟩ := List.mem_map.1 hu
      rfl) (by unfold maxLen; omega) (by omega) (Nat.le_refl _)
    refine ⟨v', w', r1, by simpa using r2, ?_⟩
    exact Q.below (Q.refl w) ⟨r3.os, r3.tape, r3.output, r3.size, fun k hk => r3.block k hk (by simp [Value.ownBlock])⟩
theorem wpList_append_ns {ops : Array Oper} {rest : List Oper} {o : Oper} {a : Act} {R : Exit → Act → World → Prop} (hgd : o.guard = none) (s x : Operand)
    (ho : o.op = .call { callee := .builtin .append, args := #[s, x], argTypes := #[23, 23] })
    (W : World) (vn : Value) (ns : List Txt) (hs : a.eval s = .slice none 0 0) (hx : a.eval x = vn) (h : NsV W vn ns) (hl : ns.length ≤ 1000000000)
    (hK : ∀ v' w', w'.ownsRow W.heap.size 9 1 v' ns.length (ns.map strV) → Q W w' → wpList Tryd.prog ops R rest (a.put o.dst v') w') : wpList Tryd.prog ops R (o :: rest) a W := by
  obtain ⟨v', w', hr, h2, h3⟩ := run_append_ns W vn ns o.type h hl
  refine wpList_plain hgd fun K hKK => ?_
  unfold Oper.wp execOp
  simp only [ho, resolve, invoke, builtin, Sem.run_bind, Sem.run_pure, Result.andThen_ok, List.map_toArray, List.map_cons, List.map_nil, hs, hx, hr]
  exact hKK _ _ (hK v' w' h2 h3)
theorem rows_apart {w : World} {b1 b2 s1 s2 n1 n2 : Nat} {t1 t2 : TypeId} {v1 v2 : Value} {x1 x2 : List Value} (h1 : w.ownsRow b1 t1 s1 v1 n1 x1) (h2 : w.ownsRow b2 t2 s2 v2 n2 x2) (ht : t1 ≠ t2) : ∀ b, v1.ownBlock = some b → v2.ownBlock ≠ some b := by
  intro b e1 e2
  rcases h1.2 with ⟨hv, _⟩ | ⟨g, c, cur, hv, _, hh, _⟩
  · rw [hv] at e1; cases e1
  · rcases h2.2 with ⟨hv2, _⟩ | ⟨g2, c2, cur2, hv2, _, hh2, _⟩
    · rw [hv2] at e2; cases e2
    · rw [hv] at e1; rw [hv2] at e2
      simp [Value.ownBlock] at e1 e2
      subst e1 e2
      rw [hh] at hh2
      injection hh2 with hh2
      injection hh2 with _ hh2 _
      exact ht hh2
structure CpK (lo : Nat) (ns : List Txt) (acc : List JsonD) (W : World) (vn vk : Value) (cells : List Value) : Prop where
  nrow : W.ownsRow lo 9 1 vn ns.length (ns.map strV)
  krow : W.ownsRow lo 40 4 vk acc.length cells
  jok : JOK W (fun b => vn.ownBlock = some b ∨ vk.ownBlock = some b) acc lo W.heap.size cells
  le : lo ≤ W.heap.size
theorem CpK.start {lo : Nat} {ns : List Txt} {W : World} {vn : Value} (h : W.ownsRow lo 9 1 vn ns.length (ns.map strV)) (hl : lo ≤ W.heap.size) : CpK lo ns [] W vn (.slice none 0 0) [] :=
  ⟨h, World.ownsRow_nil _ _ _ _, by rw [JOK], hl⟩
theorem CpK.more {lo : Nat} {ns : List Txt} {acc : List JsonD} {W w1 w3 w4 : World} {vn vk v' un uk : Value} {cells : List Value} {v : JsonD} (h : CpK lo ns acc W vn vk cells) (h1 : Q W w1) (hv : JO w1 v W.heap.size w1.heap.size un uk) (h3 : Q w1 w3) (hgrow : w3.grownBy w4 vk.ownBlock)
    (hrow : w4.ownsRow lo 40 4 v' (acc.length + 1) (cells ++ cellJ v un uk)) (hob : v'.ownBlock = vk.ownBlock ∨ v'.ownBlock = some w3.heap.size) : CpK lo ns (acc ++ [v]) w4 vn v' (cells ++ cellJ v un uk) := by
  have hq := h1.trans h3
  have hs1 := h1.size
  have hs3 := h3.size
  have hs4 := hgrow.size
  have hap := rows_apart h.nrow h.krow (by decide)
  have hnb : ∀ b, vn.ownBlock = some b → lo ≤ b ∧ b < W.heap.size := fun b e => ownsRow_base h.nrow e
  have hkb : ∀ b, vk.ownBlock = some b → lo ≤ b ∧ b < W.heap.size := fun b e => ownsRow_base h.krow e
  have hf : ∀ b, b < w1.heap.size → vk.ownBlock ≠ some b → w4.heap[b]? = w1.heap[b]? := fun b e1 e2 => by
    rw [hgrow.block b (by omega) (fun e => e2 e.symm)]; exact Below.block h3 b e1
  refine ⟨?_, by simpa using hrow, ?_, by have := h.le; omega⟩
  · refine ownsRow_frame h.nrow (fun b e1 e2 => ?_)
    rw [hf b (by omega) (fun e => hap b e1 e)]; exact Below.block h1 b e2
  · have hj4 : JO w4 v W.heap.size w1.heap.size un uk := JO.frame _ _ _ _ _ (fun b e1 e2 e3 => hf b e3 (fun e => by have := hkb b e; omega)) hv
    have hk4 : JOK w4 (fun b => vn.ownBlock = some b ∨ vk.ownBlock = some b) acc lo W.heap.size cells := JOK.frameX (fun b e1 e2 hx e3 => by
      rw [hf b (by omega) (fun e => hx (.inr e))]; exact Below.block h1 b e3) h.jok
    have hk5 : JOK w4 (fun b => vn.ownBlock = some b ∨ v'.ownBlock = some b) acc lo W.heap.size cells := hk4.widen (Nat.le_refl _) (Nat.le_refl _) (fun b hb => by
      rcases hb with hb | hb
      · exact .inl (.inl hb)
      · rcases hob with e | e
        · exact .inl (.inr (e ▸ hb))
        · rw [e] at hb; injection hb with hb; right; right; omega)
    exact JOK.snoc hj4 (by omega) (fun b hb => by
      rcases hb with hb | hb
      · have := hnb b hb; left; omega
      · rcases hob with e | e
        · have := hkb b (e ▸ hb); left; omega
        · rw [e] at hb; injection hb with hb; right; omega) hk5 h.le
theorem CpK.done {lo base : Nat} {k : Int} {t : Txt} {ns : List Txt} {ks : List JsonD} {W : World} {vn vk : Value} {cells : List Value} (h : CpK lo ns ks W vn vk cells) (hb : base ≤ lo) : JO W (.mk k t ns ks) base W.heap.size vn vk := by
  refine JO.widen (lo := lo) (hi := W.heap.size) ?_ hb (Nat.le_refl _)
  rw [JO]
  exact ⟨h.le, h.nrow, fun b e => (ownsRow_base h.nrow e).2, fun b e => (ownsRow_base h.krow e).2, cells, h.krow, h.jok⟩
def CpP (j : JsonD) (w : World) (e : Ending) (w' : World) : Prop := ∃ un uk, e = .returned (.agg (cellJ j un uk).toArray) ∧ JO w' j w.heap.size w'.heap.size un uk ∧ Q w w'
end Go.Proofs.YtlhhiiemojhjdaaDoor
set_option linter.unusedVariables false
set_option linter.unusedSimpArgs false
namespace Go.Proofs.YtlhhiiemojhjdaaDoor
open Go Go.RowKit
def ManyP (j : JsonD) (w : World) (e : Ending) (w' : World) : Prop := ∃ m : Nat, e = .returned (.int .i64 (m : Int)) ∧ 1 ≤ m ∧ m ≤ cntJ j ∧ Q w w'
theorem cntKs_take (ks : List JsonD) (i : Nat) (hi : i < ks.length) : cntKs (ks.take (i + 1)) = cntKs (ks.take i) + cntJ (gK ks i) := by
  rw [gK_take ks i hi, cntKs_app, cntKs, cntKs]; omega
theorem cntKs_le (ks : List JsonD) (i : Nat) : cntKs (ks.take i) ≤ cntKs ks := by
  have h := cntKs_app (ks.take i) (ks.drop i)
  rw [List.take_append_drop] at h
  omega
def ManyKids (ks : List JsonD) : Prop := ∀ i, i < ks.length → ∀ W un uk, JV W (gK ks i) un uk → Calls Tryd.prog 28 #[.agg (cellJ (gK ks i) un uk).toArray] W (ManyP (gK ks i) W)
set_option maxRecDepth 100000 in
set_option maxHeartbeats 4000000 in
theorem many_step (k : Int) (t : Txt) (ns : List Txt) (ks : List JsonD) (w : World) (vn vk : Value) (hj : JV w (.mk k t ns ks) vn vk) (hc : cntJ (.mk k t ns ks) ≤ 2000000) (IH : ManyKids ks) :
    Calls Tryd.prog 28 #[.agg (cellJ (.mk k t ns ks) vn vk).toArray] w (ManyP (.mk k t ns ks) w) := by
  obtain ⟨⟨A1, n1, c1, rfl⟩, -⟩ := jv_slices hj
  obtain ⟨A, c, rfl, hc1, hc2, hkid⟩ := hj.kidAt
  have HKid := Lib.hid hkid
  have HIH := Lib.hid IH
  rw [cntJ] at hc
  have hcl := cnt_len ks
  have hkl : ks.length ≤ 2000000 := by omega
  have HC := Lib.hid hc
  have HFin : Hid (∀ (m : Nat) W, 1 ≤ m → m ≤ cntKs ks + 1 → Q w W → ManyP (.mk k t ns ks) w (.returned (.int .i64 (m : Int))) W) := Lib.hid (fun m W h1 h2 h3 => ⟨m, rfl, h1, by rw [cntJ]; exact h2, h3⟩)
  clear hkid IH hj hcl hc
  go_enter Tryd.func28, Tryd.ntmps28
  go_upto_region 1 with (fail)
  obtain ⟨W1, hW1⟩ : ∃ W1, w.alloc (.cells (cellJ (.mk k t ns ks) (.slice A1 n1 c1) (.slice A ks.length c)).toArray 40) = W1 := ⟨_, rfl⟩
  have hr1 : W1.heap[w.heap.size]? = some (.cells (cellJ (.mk k t ns ks) (.slice A1 n1 c1) (.slice A ks.length c)).toArray 40 (0, 0)) := by rw [← hW1]; exact heap_alloc_new w _
  have hq1 : Q w W1 := by rw [← hW1]; exact (Q.refl w).alloc _
  rw [hW1]
  obtain ⟨jb, hjb⟩ : ∃ jb, w.heap.size = jb := ⟨_, rfl⟩
  rw [hjb] at hr1 ⊢
  have HR1 := Lib.hid hr1
  have HQ1 := Lib.hid hq1
  clear hW1 hr1 hq1 hjb
  go_wp2_with fail
  go_loopg [3, 4] (ks.length + 1) (fun gk n i wx => ∃ m q : Nat, gk = ks.length - q + 1 ∧ q ≤ ks.length ∧ n = .int .i64 (m : Int) ∧ i = .int .i64 (q : Int) ∧ 1 ≤ m ∧ m ≤ 2000001 ∧ Hid (m ≤ cntKs (ks.take q) + 1 ∧ Q W1 wx))
  case atStart => exact ⟨1, 0, rfl, by omega, rfl, rfl, by omega, by omega, Lib.hid ⟨by omega, Q.refl W1⟩⟩
  case round =>
    obtain ⟨m, q, rfl, hq, rfl, rfl, hm1, hm2, HI⟩ := hrel
    rename World => wa
    have x3 : wa.cell? ⟨jb, 3, none⟩ = some (.slice A ks.length c) := by rw [cell_of_row _ _ _ _ _ _ (HI.out.2.block HR1.out)]; rfl
    have HX : Hid (ManyP (.mk k t ns ks) w (.returned (.int .i64 (m : Int))) wa) := Lib.hid (HFin.out m wa hm1 (by have := cntKs_le ks q; have := HI.out.1; omega) (HQ1.out.trans HI.out.2))
    by_cases hlt : q < ks.length
    · have hdq : decide (q < ks.length) = true := by simpa using hlt
      by_cases hmm : m < 9000
      · have hdm : decide ((m : Int) < 9000) = true := by simp; omega
        obtain ⟨g, off, un, uk, hA⟩ := HKid.out q hlt
        obtain rfl := hA.a
        have hqw := HQ1.out.trans HI.out.2
        have HRg : Hid (wa.rangeAt g (off + q * 4) (cellJ (gK ks q) un uk)) := Lib.hid (fun j u hu => hqw.cell (hA.rg j u hu))
        have HCl := Lib.hid (HIH.out q hlt wa un uk (hA.jv.q hqw))
        have HIn : Hid ((Tryd.prog.info? 40).map (·.size) = some (cellJ (gK ks q) un uk).length) := Lib.hid (info_sz (gK ks q) un uk)
        clear hA hqw HX hmm
        go_wp2_with (refine wpList_load_mid rfl 40 (.tmp 20) rfl g (off + q * 4) rfl (cellJ (gK ks q) un uk) _ HRg.out Tryd.underlying40 rfl HIn.out ?_; simp only [Act.put, List.setIfInBounds_toArray, List.set_cons_succ, List.set_cons_zero])
        refine HCl.out.mono ?_
        rintro e w2 ⟨m2, rfl, hm3, hm4, hq2⟩
        have hct := cntKs_take ks q hlt
        have hcl := cntKs_le ks (q + 1)
        have hcm := HC.out
        have hml := HI.out.1
        have hm5 : m2 ≤ 2000000 := by omega
        have hm6 : m + m2 ≤ 2000001 := by omega
        have HN : Hid (m + m2 ≤ cntKs (ks.take (q + 1)) + 1 ∧ Q W1 w2) := Lib.hid ⟨by omega, HI.out.2.trans hq2⟩
        clear hct hcl hcm hml hq2 HCl x3 hm4 HI HRg
        go_wp2_with fail
        go_roundg (ks.length - (q + 1) + 1)
        case measure => omega
        case rel => exact ⟨m + m2, q + 1, rfl, by omega, by simp, by simp, by omega, hm6, HN⟩
      · have hdm : decide ((m : Int) < 9000) = false := by simp; omega
        clear hmm hlt HI
        go_wp2_with fail
        go_ret
        exact HX.out
    · have hdq : decide (q < ks.length) = false := by simpa using hlt
      clear hlt HI
      go_wp2_with fail
      go_ret
      exact HX.out
theorem many_all : ∀ (n : Nat) (j : JsonD), cntJ j ≤ n → cntJ j ≤ 2000000 → ∀ (w : World) (vn vk : Value), JV w j vn vk → Calls Tryd.prog 28 #[.agg (cellJ j vn vk).toArray] w (ManyP j w)
  | 0, j, hn, _, _, _, _, _ => absurd hn (by have := cnt_pos j; omega)
  | n + 1, .mk k t ns ks, hn, hm, w, vn, vk, hj => by
    have hn' := hn
    rw [cntJ] at hn'
    have hm' := hm
    rw [cntJ] at hm'
    exact many_step k t ns ks w vn vk hj hm (fun i hi W un uk hv => by
      have hc := cnt_gK hi
      exact many_all n (gK ks i) (by omega) (by omega) W un uk hv)
end Go.Proofs.YtlhhiiemojhjdaaDoor
set_option linter.unusedVariables false
namespace Go.Proofs.YtlhhiiemojhjdaaDoor
open Go Go.RowKit Go.ChangeShapes Go.WideShapes Go.Deep
theorem list4 {α : Type} {l : List α} (h : l.length = 4) : ∃ a b c d, l = [a, b, c, d] := by
  match l, h with
  | [a, b, c, d], _ => exact ⟨a, b, c, d, rfl⟩
theorem strB (s : ByteArray) : Value.string s = .string ⟨s.data.toList.toArray⟩ := by cases s; rfl
theorem spot_none {W : World} {a : Addr} {v : Value} (h : W.cell? a = some v) : a.spot = none := by
  obtain ⟨g, off, spot⟩ := a
  unfold World.cell? at h
  simp only at h
  split at h
  · cases spot with
    | none => rfl
    | some s => simp at h
  · cases h
section
variable {H : Type} {enc : TypeId × Value → H} {W : World} {hd : Bool}
theorem bulkAll {d : DataW H} {l : List (DataW H)} (h : d ∈ l) : Rows.uptoBulk d ≤ Rows.uptoBulkAll l := by
  induction l with
  | nil => cases h
  | cons a r ih =>
    simp only [Rows.uptoBulkAll]
    rcases List.mem_cons.1 h with h | h
    · subst h; omega
    · have := ih h; omega
theorem str_in {fuel : Nat} {c : Value} {y : DataW H × List MemPlace} (h : DataW.trod enc Tryd.prog W 0 (fun _ => true) hd fuel 9 [c] = some y) : ∃ s : Txt, c = .string ⟨s.toArray⟩ ∧ y.1 = .lit (.string s) := by
  obtain ⟨s, e, e2, _⟩ := DataW.trod_string Tryd.underlying9 h
  have e' : c = .string s := by simpa using e
  exact ⟨s.data.toList, e'.trans (strB s), by rw [e2]⟩
theorem str_bulk (s : Txt) : Rows.uptoBulk (DataW.lit (H := H) (.string s)) = s.length + 1 := by simp [Rows.uptoBulk]
theorem names_in {fuel : Nat} {c : Value} {y : DataW H × List MemPlace} (h : DataW.trod enc Tryd.prog W 0 (fun _ => true) hd fuel 23 [c] = some y) :
    ∃ ns : List Txt, NsV W c ns ∧ ∀ n ∈ ns, n.length ≤ Rows.uptoBulk y.1 := by
  have hc : Tryd.prog.cellsOf 9 = 1 := by kernel_rfl
  rcases open_slice Tryd.underlying23 h with ⟨hcs, hx⟩ | ⟨a, len, cap, m, n, D, Pl, hcs, _, hl, hm, hmm, rfl, hcell⟩
  · simp at hcs
    subst hcs
    exact ⟨[], ⟨none, 0, rfl, by simp, by omega, fun h => absurd h (by simp)⟩, fun n hn => by cases hn⟩
  · simp at hcs
    subst hcs
    simp only [if_true] at hmm
    subst hmm
    rw [hc] at hcell
    obtain ⟨p, hp⟩ := choose_lt (α := Txt) (p := fun i q => W.cell? (a.add i) = some (.string ⟨q.toArray⟩) ∧ D i = .lit (.string q)) (fun i hi => by
      obtain ⟨cs', h1, h2⟩ := hcell i hi
      obtain ⟨_, hlen, hcc⟩ := World.cells?_some h1
      obtain ⟨c, rfl⟩ := List.length_eq_one_iff.1 hlen
      obtain ⟨s, rfl, hs⟩ := str_in h2
      refine ⟨s, ?_, hs⟩
      have := hcc 0 (by omega)
      rw [add_add] at this
      simpa using this)
    refine ⟨(List.range len).map p, ⟨some a, m, by simp, by simp; omega, by unfold maxLen at hm; simpa using hm, fun h0 => ?_⟩, fun q hq => ?_⟩
    · have h0' : 0 < len := by simpa using h0
      have h00 := (hp 0 (by omega)).1
      have ea : a.add 0 = a := by simp [Addr.add]
      rw [ea] at h00
      have hsp := spot_none h00
      obtain ⟨g, off, spot⟩ := a
      simp only at hsp
      subst hsp
      refine ⟨g, off, rfl, fun i hi => ?_⟩
      have hi' : i < len := by simpa using hi
      have h1 := (hp i (by omega)).1
      rw [add_off] at h1
      have e : gL ((List.range len).map p) i = p i := by simp [gL, List.getD, hi']
      rw [e]; exact h1
    · obtain ⟨i, hi, rfl⟩ := List.mem_map.1 hq
      have hi' : i < len := by simpa using hi
      have h1 := bulkAll (H := H) (List.mem_map.2 ⟨i, hi, rfl⟩ : D i ∈ (List.range len).map D)
      rw [(hp i (by omega)).2, str_bulk] at h1
      simp only [Rows.uptoBulk]
      omega
theorem jk_list (j : Nat → JsonD) (vn vk : Nat → Value) : ∀ (l : List Nat), (∀ i ∈ l, JV W (j i) (vn i) (vk i)) → JK W (l.map j) (l.flatMap fun i => cellJ (j i) (vn i) (vk i))
  | [], _ => by rw [List.map_nil, List.flatMap_nil, JK]
  | i :: r, h => by
    rw [List.map_cons, List.flatMap_cons, JK]
    exact ⟨_, _, _, rfl, h i (by simp), jk_list j vn vk r (fun k hk => h k (by simp [hk]))⟩
theorem flat4 (f : Nat → List Value) (hf : ∀ i, (f i).length = 4) : ∀ (n i : Nat) (u : Value), ((List.range n).flatMap f)[i]? = some u → i / 4 < n ∧ (f (i / 4))[i % 4]? = some u
  | 0, i, u, h => by simp at h
  | n + 1, i, u, h => by
    have hl : ∀ m, ((List.range m).flatMap f).length = m * 4 := by
      intro m
      induction m with
      | zero => rfl
      | succ m ih => rw [List.range_succ, List.flatMap_append, List.length_append, ih]; simp [hf]; omega
    rw [List.range_succ, List.flatMap_append] at h
    by_cases hi : i < n * 4
    · rw [List.getElem?_append_left (by rw [hl]; exact hi)] at h
      have := flat4 f hf n i u h
      exact ⟨by omega, this.2⟩
    · rw [List.getElem?_append_right (by rw [hl]; omega), hl] at h
      simp only [List.flatMap_cons, List.flatMap_nil, List.append_nil] at h
      have h4 := (List.getElem?_eq_some_iff.1 h).1
      rw [hf] at h4
      have e1 : i / 4 = n := by omega
      have e2 : i % 4 = i - n * 4 := by omega
      rw [e1, e2]
      exact ⟨by omega, h⟩
theorem trod_struct4 {P : Program} {w : World} {base : Nat} {spare : Nat → Bool} {held : Bool} {t : TypeId} {f0 f1 f2 f3 : Field} {fuel : Nat} {cs : List Value} {x : DataW H × List MemPlace} (ht : P.underlying t = some (.struct #[f0, f1, f2, f3])) (h : DataW.trod enc P w base spare held fuel t cs = some x) :
    ∃ y0 y1 y2 y3 n, x.1 = .agg [y0.1, y1.1, y2.1, y3.1] ∧ cs.length = P.cellsOf t ∧ DataW.trod enc P w base spare held n f0.type ((cs.drop f0.offset).take (P.cellsOf f0.type)) = some y0 ∧
      DataW.trod enc P w base spare held n f1.type ((cs.drop f1.offset).take (P.cellsOf f1.type)) = some y1 ∧ DataW.trod enc P w base spare held n f2.type ((cs.drop f2.offset).take (P.cellsOf f2.type)) = some y2 ∧
      DataW.trod enc P w base spare held n f3.type ((cs.drop f3.offset).take (P.cellsOf f3.type)) = some y3 := by
  obtain ⟨xs, n, _, rfl, hl, hlen, hf⟩ := DataW.trod_struct ht h
  obtain ⟨y0, y1, y2, y3, rfl⟩ := list4 (hlen.trans rfl)
  exact ⟨y0, y1, y2, y3, n, by simp, hl, by simpa using hf 0 f0 rfl, by simpa using hf 1 f1 rfl, by simpa using hf 2 f2 rfl, by simpa using hf 3 f3 rfl⟩
theorem json_in : ∀ (N : Nat) (fuel : Nat) (cs : List Value) (y : DataW H × List MemPlace), DataW.trod enc Tryd.prog W 0 (fun _ => true) hd fuel 40 cs = some y → Rows.uptoBulk y.1 ≤ N →
    ∃ j vn vk, cs = cellJ j vn vk ∧ JV W j vn vk ∧ bigJ N j
  | 0, fuel, cs, y, h, hN => by
    obtain ⟨y0, y1, y2, y3, n, hx, _⟩ := trod_struct4 Tryd.underlying40 h
    rw [hx] at hN
    simp [Rows.uptoBulk] at hN
  | N + 1, fuel, cs, y, h, hN => by
    obtain ⟨y0, y1, y2, y3, n, hx, hl, g0, g1, g2, g3⟩ := trod_struct4 Tryd.underlying40 h
    have hc : Tryd.prog.cellsOf 40 = 4 := by kernel_rfl
    have c0 : Tryd.prog.cellsOf 3 = 1 := by kernel_rfl
    have c1 : Tryd.prog.cellsOf 9 = 1 := by kernel_rfl
    have c2 : Tryd.prog.cellsOf 23 = 1 := by kernel_rfl
    have c3 : Tryd.prog.cellsOf 38 = 1 := by kernel_rfl
    rw [hc] at hl
    obtain ⟨v0, v1, v2, v3, rfl⟩ := list4 hl
    simp only [c0, c1, c2, c3, List.drop_zero, List.drop_succ_cons, List.take_succ_cons, List.take_zero] at g0 g1 g2 g3
    rw [hx] at hN
    simp only [Rows.uptoBulk, Rows.uptoBulkAll] at hN
    obtain ⟨t, rfl, x1⟩ := str_in g1
    rw [x1, str_bulk] at hN
    obtain ⟨ns, hns, hnb⟩ := names_in g2
    have hk : ∃ k, v0 = .int .i64 k := by
      obtain ⟨k, e, _⟩ := DataW.trod_int Tryd.underlying3 g0
      exact ⟨k, by simpa using e⟩
    obtain ⟨k, rfl⟩ := hk
    have hkids : ∃ ks, (∃ B c, v3 = .slice B ks.length c ∧ ks.length ≤ c ∧ c ≤ 9223372036854775807 ∧ (0 < ks.length → ∃ g off cells, B = some ⟨g, off, none⟩ ∧ (∀ i u, cells[i]? = some u → W.cell? ⟨g, off + i, none⟩ = some u) ∧ JK W ks cells)) ∧ bigKs N ks := by
      rcases open_slice Tryd.underlying38 g3 with ⟨hcs, hx⟩ | ⟨a, len, cap, m, n', D, Pl, hcs, _, hlc, hm, hmm, hy, hcell⟩
      · simp at hcs
        subst hcs
        exact ⟨[], ⟨none, 0, rfl, by simp, by omega, fun h => absurd h (by simp)⟩, by rw [bigKs]; trivial⟩
      · simp at hcs
        subst hcs
        simp only [if_true] at hmm
        subst hmm
        rw [hc] at hcell
        rw [hy] at hN
        simp only [Rows.uptoBulk] at hN
        obtain ⟨p, hp⟩ := choose_lt (α := JsonD × Value × Value) (p := fun i q => i < len → (∀ k v, (cellJ q.1 q.2.1 q.2.2)[k]? = some v → W.cell? ((a.add (i * 4)).add k) = some v) ∧ JV W q.1 q.2.1 q.2.2 ∧ bigJ N q.1) (fun i (hi : i < m) => by
          by_cases hil : i < len
          · obtain ⟨cs', h1, h2⟩ := hcell i hi
            obtain ⟨_, hlen, hcc⟩ := World.cells?_some h1
            have hbi := bulkAll (H := H) (List.mem_map.2 ⟨i, by simpa using hil, rfl⟩ : D i ∈ (List.range len).map D)
            obtain ⟨j, vn, vk, rfl, hj, hb⟩ := json_in N n' cs' _ h2 (by show Rows.uptoBulk (D i) ≤ N; omega)
            refine ⟨(j, vn, vk), fun _ => ⟨fun k v hk => ?_, hj, hb⟩⟩
            have hk4 : k < 4 := by have := (List.getElem?_eq_some_iff.1 hk).1; exact this
            rw [hcc k hk4]; exact hk
          · exact ⟨(zeroJ, .slice none 0 0, .slice none 0 0), fun h => absurd h hil⟩)
        refine ⟨(List.range len).map (fun i => (p i).1), ⟨some a, m, by simp, by simp; omega, by unfold maxLen at hm; simpa using hm, fun h0 => ?_⟩, ?_⟩
        · have h0' : 0 < len := by simpa using h0
          have h00 := (hp 0 (by omega) h0').1 0 _ rfl
          rw [Nat.zero_mul] at h00
          have ea : (a.add 0).add 0 = a := by simp [Addr.add]
          rw [ea] at h00
          have hsp := spot_none h00
          obtain ⟨g, off, spot⟩ := a
          simp only at hsp
          subst hsp
          refine ⟨g, off, (List.range len).flatMap fun i => cellJ (p i).1 (p i).2.1 (p i).2.2, rfl, fun i u hu => ?_, jk_list (fun i => (p i).1) (fun i => (p i).2.1) (fun i => (p i).2.2) _ (fun i hi => (hp i (by have := List.mem_range.1 hi; omega) (List.mem_range.1 hi)).2.1)⟩
          obtain ⟨h1, h2⟩ := flat4 (fun i => cellJ (p i).1 (p i).2.1 (p i).2.2) (fun i => jsonC_len _ _ _ _) len i u hu
          have h3 := (hp (i / 4) (by omega) h1).1 (i % 4) u h2
          rw [add_off, add_off] at h3
          rw [show off + i = off + i / 4 * 4 + i % 4 by omega]; exact h3
        · rw [bigKs_iff]
          intro j hj
          obtain ⟨i, hi, rfl⟩ := List.mem_map.1 hj
          exact (hp i (by have := List.mem_range.1 hi; omega) (List.mem_range.1 hi)).2.2
    obtain ⟨ks, hks, hkb⟩ := hkids
    refine ⟨.mk k t ns ks, v2, v3, rfl, by rw [JV]; exact ⟨hns, hks⟩, ?_⟩
    rw [bigJ]
    refine ⟨by omega, fun n hn => by have := hnb n hn; omega, ?_⟩
    rw [bigKs_iff] at hkb ⊢
    exact fun j hj => bigJ_mono (by omega) j (hkb j hj)
set_option maxRecDepth 100000 in
theorem json_open {N b0 : Nat} {v : Value} {d : DataW H} {q : List MemPlace} (hv : Value.okWide Tryd.prog W .any b0 40 v) (h : DataW.Trod enc Tryd.prog W 0 (fun _ => true) hd 40 v d q) (hB : Rows.uptoBulk d ≤ N) :
    ∃ j vn vk, v = .agg (cellJ j vn vk).toArray ∧ JV W j vn vk ∧ bigJ N j := by
  obtain ⟨cs, rfl, hsz⟩ := okWide_struct Tryd.underlying40 hv
  obtain ⟨fuel, hf⟩ := h
  obtain ⟨j, vn, vk, e, h1, h2⟩ := json_in N fuel _ _ hf hB
  refine ⟨j, vn, vk, ?_, h1, h2⟩
  have e2 : cs = (cellJ j vn vk).toArray := by
    rw [← e]; simp [Value.cells]
  rw [e2]
end
end Go.Proofs.YtlhhiiemojhjdaaDoor
set_option linter.unusedVariables false
set_option linter.unusedSimpArgs false
namespace Go.Proofs.YtlhhiiemojhjdaaDoor
open Go Go.RowKit Go.ChangeShapes Go.WideShapes Go.Deep
mutual
def lenJ (N : Nat) : JsonD → Prop
  | .mk _ _ ns ks => ns.length ≤ N ∧ lenKs N ks
def lenKs (N : Nat) : List JsonD → Prop
  | [] => True
  | j :: r => lenJ N j ∧ lenKs N r
end
theorem lenKs_iff (N : Nat) : ∀ (ks : List JsonD), lenKs N ks ↔ ∀ j ∈ ks, lenJ N j
  | [] => by simp [lenKs]
  | j :: r => by simp [lenKs, lenKs_iff N r]
mutual
theorem lenJ_mono {N M : Nat} (h : N ≤ M) : ∀ (j : JsonD), lenJ N j → lenJ M j
  | .mk k t ns ks, hb => by
    rw [lenJ] at hb ⊢
    exact ⟨by omega, lenKs_mono h ks hb.2⟩
theorem lenKs_mono {N M : Nat} (h : N ≤ M) : ∀ (ks : List JsonD), lenKs N ks → lenKs M ks
  | [], _ => by rw [lenKs]; trivial
  | j :: r, hb => by
    rw [lenKs] at hb ⊢
    exact ⟨lenJ_mono h j hb.1, lenKs_mono h r hb.2⟩
end
theorem lenKs_gK {N : Nat} {ks : List JsonD} (h : lenKs N ks) {i : Nat} (hi : i < ks.length) : lenJ N (gK ks i) := by
  rw [gK_get ks i hi]
  exact (lenKs_iff N ks).1 h _ (List.getElem_mem hi)
section
variable {H : Type} {enc : TypeId × Value → H} {W : World} {hd : Bool}
theorem one_bulk (d : DataW H) : 1 ≤ Rows.uptoBulk d := by
  cases d with
  | lit l => cases l <;> simp [Rows.uptoBulk]
  | nil => simp [Rows.uptoBulk]
  | ptr d => simp [Rows.uptoBulk]
  | slice elems spare => simp [Rows.uptoBulk]
  | agg parts => simp [Rows.uptoBulk]
  | iface t d => simp [Rows.uptoBulk]
  | map entries => simp [Rows.uptoBulk]
  | held h => simp [Rows.uptoBulk]
theorem len_bulk (l : List (DataW H)) : l.length ≤ Rows.uptoBulkAll l := by
  induction l with
  | nil => simp [Rows.uptoBulkAll]
  | cons x r ih => have := one_bulk x; simp only [Rows.uptoBulkAll, List.length_cons]; omega
theorem cnt_list (f : Nat → JsonD) (D : Nat → DataW H) : ∀ l : List Nat, (∀ i ∈ l, cntJ (f i) ≤ Rows.uptoBulk (D i)) → cntKs (l.map f) ≤ Rows.uptoBulkAll (l.map D)
  | [], _ => by rw [List.map_nil, cntKs]; exact Nat.zero_le _
  | i :: r, h => by
    rw [List.map_cons, List.map_cons, cntKs]
    simp only [Rows.uptoBulkAll]
    have h1 := h i (by simp)
    have h2 := cnt_list f D r (fun k hk => h k (by simp [hk]))
    omega
theorem names_in2 {fuel : Nat} {c : Value} {y : DataW H × List MemPlace} (h : DataW.trod enc Tryd.prog W 0 (fun _ => true) hd fuel 23 [c] = some y) :
    ∃ ns : List Txt, NsV W c ns ∧ (∀ n ∈ ns, n.length ≤ Rows.uptoBulk y.1) ∧ ns.length ≤ Rows.uptoBulk y.1 := by
  have hc : Tryd.prog.cellsOf 9 = 1 := by kernel_rfl
  rcases open_slice Tryd.underlying23 h with ⟨hcs, hx⟩ | ⟨a, len, cap, m, n, D, Pl, hcs, _, hl, hm, hmm, rfl, hcell⟩
  · simp at hcs
    subst hcs
    exact ⟨[], ⟨none, 0, rfl, by simp, by omega, fun h => absurd h (by simp)⟩, fun n hn => (by cases hn), by simp⟩
  · simp at hcs
    subst hcs
    simp only [if_true] at hmm
    subst hmm
    rw [hc] at hcell
    obtain ⟨p, hp⟩ := choose_lt (α := Txt) (p := fun i q => W.cell? (a.add i) = some (.string ⟨q.toArray⟩) ∧ D i = .lit (.string q)) (fun i hi => by
      obtain ⟨cs', h1, h2⟩ := hcell i hi
      obtain ⟨_, hlen, hcc⟩ := World.cells?_some h1
      obtain ⟨c, rfl⟩ := List.length_eq_one_iff.1 hlen
      obtain ⟨s, rfl, hs⟩ := str_in h2
      refine ⟨s, ?_, hs⟩
      have := hcc 0 (by omega)
      rw [add_add] at this
      simpa using this)
    refine ⟨(List.range len).map p, ⟨some a, m, by simp, by simp; omega, by unfold maxLen at hm; simpa using hm, fun h0 => ?_⟩, fun q hq => ?_, ?_⟩
    · have h0' : 0 < len := by simpa using h0
      have h00 := (hp 0 (by omega)).1
      have ea : a.add 0 = a := by simp [Addr.add]
      rw [ea] at h00
      have hsp := spot_none h00
      obtain ⟨g, off, spot⟩ := a
      simp only at hsp
      subst hsp
      refine ⟨g, off, rfl, fun i hi => ?_⟩
      have hi' : i < len := by simpa using hi
      have h1 := (hp i (by omega)).1
      rw [add_off] at h1
      have e : gL ((List.range len).map p) i = p i := by simp [gL, List.getD, hi']
      rw [e]; exact h1
    · obtain ⟨i, hi, rfl⟩ := List.mem_map.1 hq
      have hi' : i < len := by simpa using hi
      have h1 := bulkAll (H := H) (List.mem_map.2 ⟨i, hi, rfl⟩ : D i ∈ (List.range len).map D)
      rw [(hp i (by omega)).2, str_bulk] at h1
      simp only [Rows.uptoBulk]
      omega
    · have := len_bulk ((List.range len).map D)
      simp only [List.length_map, List.length_range] at this ⊢
      simp only [Rows.uptoBulk]
      omega
theorem json_in2 : ∀ (N : Nat) (fuel : Nat) (cs : List Value) (y : DataW H × List MemPlace), DataW.trod enc Tryd.prog W 0 (fun _ => true) hd fuel 40 cs = some y → Rows.uptoBulk y.1 ≤ N →
    ∃ j vn vk, cs = cellJ j vn vk ∧ JV W j vn vk ∧ bigJ N j ∧ cntJ j ≤ Rows.uptoBulk y.1 ∧ lenJ N j
  | 0, fuel, cs, y, h, hN => by
    obtain ⟨y0, y1, y2, y3, n, hx, _⟩ := trod_struct4 Tryd.underlying40 h
    rw [hx] at hN
    simp [Rows.uptoBulk] at hN
  | N + 1, fuel, cs, y, h, hN => by
    obtain ⟨y0, y1, y2, y3, n, hx, hl, g0, g1, g2, g3⟩ := trod_struct4 Tryd.underlying40 h
    have hc : Tryd.prog.cellsOf 40 = 4 := by kernel_rfl
    have c0 : Tryd.prog.cellsOf 3 = 1 := by kernel_rfl
    have c1 : Tryd.prog.cellsOf 9 = 1 := by kernel_rfl
    have c2 : Tryd.prog.cellsOf 23 = 1 := by kernel_rfl
    have c3 : Tryd.prog.cellsOf 38 = 1 := by kernel_rfl
    rw [hc] at hl
    obtain ⟨v0, v1, v2, v3, rfl⟩ := list4 hl
    simp only [c0, c1, c2, c3, List.drop_zero, List.drop_succ_cons, List.take_succ_cons, List.take_zero] at g0 g1 g2 g3
    rw [hx] at hN
    simp only [Rows.uptoBulk, Rows.uptoBulkAll] at hN
    obtain ⟨t, rfl, x1⟩ := str_in g1
    rw [x1, str_bulk] at hN
    obtain ⟨ns, hns, hnb, hnl⟩ := names_in2 g2
    have hk : ∃ k, v0 = .int .i64 k := by
      obtain ⟨k, e, _⟩ := DataW.trod_int Tryd.underlying3 g0
      exact ⟨k, by simpa using e⟩
    obtain ⟨k, rfl⟩ := hk
    have hkids : ∃ ks, (∃ B c, v3 = .slice B ks.length c ∧ ks.length ≤ c ∧ c ≤ 9223372036854775807 ∧ (0 < ks.length → ∃ g off cells, B = some ⟨g, off, none⟩ ∧ (∀ i u, cells[i]? = some u → W.cell? ⟨g, off + i, none⟩ = some u) ∧ JK W ks cells)) ∧ bigKs N ks ∧ cntKs ks < Rows.uptoBulk y3.1 ∧ lenKs N ks := by
      rcases open_slice Tryd.underlying38 g3 with ⟨hcs, hx⟩ | ⟨a, len, cap, m, n', D, Pl, hcs, _, hlc, hm, hmm, hy, hcell⟩
      · simp at hcs
        subst hcs
        exact ⟨[], ⟨none, 0, rfl, by simp, by omega, fun h => absurd h (by simp)⟩, by rw [bigKs]; trivial, by rw [cntKs]; exact one_bulk _, by rw [lenKs]; trivial⟩
      · simp at hcs
        subst hcs
        simp only [if_true] at hmm
        subst hmm
        rw [hc] at hcell
        rw [hy] at hN
        simp only [Rows.uptoBulk] at hN
        obtain ⟨p, hp⟩ := choose_lt (α := JsonD × Value × Value) (p := fun i q => i < len → (∀ k v, (cellJ q.1 q.2.1 q.2.2)[k]? = some v → W.cell? ((a.add (i * 4)).add k) = some v) ∧ JV W q.1 q.2.1 q.2.2 ∧ bigJ N q.1 ∧ cntJ q.1 ≤ Rows.uptoBulk (D i) ∧ lenJ N q.1) (fun i (hi : i < m) => by
          by_cases hil : i < len
          · obtain ⟨cs', h1, h2⟩ := hcell i hi
            obtain ⟨_, hlen, hcc⟩ := World.cells?_some h1
            have hbi := bulkAll (H := H) (List.mem_map.2 ⟨i, by simpa using hil, rfl⟩ : D i ∈ (List.range len).map D)
            obtain ⟨j, vn, vk, rfl, hj, hb, hcb, hlb⟩ := json_in2 N n' cs' _ h2 (by show Rows.uptoBulk (D i) ≤ N; omega)
            refine ⟨(j, vn, vk), fun _ => ⟨fun k v hk => ?_, hj, hb, hcb, hlb⟩⟩
            have hk4 : k < 4 := by have := (List.getElem?_eq_some_iff.1 hk).1; exact this
            rw [hcc k hk4]; exact hk
          · exact ⟨(zeroJ, .slice none 0 0, .slice none 0 0), fun h => absurd h hil⟩)
        refine ⟨(List.range len).map (fun i => (p i).1), ⟨some a, m, by simp, by simp; omega, by unfold maxLen at hm; simpa using hm, fun h0 => ?_⟩, ?_, ?_, ?_⟩
        · have h0' : 0 < len := by simpa using h0
          have h00 := (hp 0 (by omega) h0').1 0 _ rfl
          rw [Nat.zero_mul] at h00
          have ea : (a.add 0).add 0 = a := by simp [Addr.add]
          rw [ea] at h00
          have hsp := spot_none h00
          obtain ⟨g, off, spot⟩ := a
          simp only at hsp
          subst hsp
          refine ⟨g, off, (List.range len).flatMap fun i => cellJ (p i).1 (p i).2.1 (p i).2.2, rfl, fun i u hu => ?_, jk_list (fun i => (p i).1) (fun i => (p i).2.1) (fun i => (p i).2.2) _ (fun i hi => (hp i (by have := List.mem_range.1 hi; omega) (List.mem_range.1 hi)).2.1)⟩
          obtain ⟨h1, h2⟩ := flat4 (fun i => cellJ (p i).1 (p i).2.1 (p i).2.2) (fun i => jsonC_len _ _ _ _) len i u hu
          have h3 := (hp (i / 4) (by omega) h1).1 (i % 4) u h2
          rw [add_off, add_off] at h3
          rw [show off + i = off + i / 4 * 4 + i % 4 by omega]; exact h3
        · rw [bigKs_iff]
          intro j hj
          obtain ⟨i, hi, rfl⟩ := List.mem_map.1 hj
          exact (hp i (by have := List.mem_range.1 hi; omega) (List.mem_range.1 hi)).2.2.1
        · have := cnt_list (H := H) (fun i => (p i).1) D (List.range len) (fun i hi => (hp i (by have := List.mem_range.1 hi; omega) (List.mem_range.1 hi)).2.2.2.1)
          rw [hy]
          simp only [Rows.uptoBulk]
          omega
        · rw [lenKs_iff]
          intro j hj
          obtain ⟨i, hi, rfl⟩ := List.mem_map.1 hj
          exact (hp i (by have := List.mem_range.1 hi; omega) (List.mem_range.1 hi)).2.2.2.2
    obtain ⟨ks, hks, hkb, hkc, hkl⟩ := hkids
    refine ⟨.mk k t ns ks, v2, v3, rfl, by rw [JV]; exact ⟨hns, hks⟩, ?_, ?_, ?_⟩
    · rw [bigJ]
      refine ⟨by omega, fun n hn => by have := hnb n hn; omega, ?_⟩
      rw [bigKs_iff] at hkb ⊢
      exact fun j hj => bigJ_mono (by omega) j (hkb j hj)
    · rw [cntJ, hx]
      simp only [Rows.uptoBulk, Rows.uptoBulkAll]
      omega
    · rw [lenJ]
      refine ⟨by omega, ?_⟩
      rw [lenKs_iff] at hkl ⊢
      exact fun j hj => lenJ_mono (by omega) j (hkl j hj)
set_option maxRecDepth 100000 in
theorem json_open2 {N b0 : Nat} {v : Value} {d : DataW H} {q : List MemPlace} (hv : Value.okWide Tryd.prog W .any b0 40 v) (h : DataW.Trod enc Tryd.prog W 0 (fun _ => true) hd 40 v d q) (hB : Rows.uptoBulk d ≤ N) :
    ∃ j vn vk, v = .agg (cellJ j vn vk).toArray ∧ JV W j vn vk ∧ bigJ N j ∧ cntJ j ≤ N ∧ lenJ N j := by
  obtain ⟨cs, rfl, hsz⟩ := okWide_struct Tryd.underlying40 hv
  obtain ⟨fuel, hf⟩ := h
  obtain ⟨j, vn, vk, e, h1, h2, h3, h4⟩ := json_in2 N fuel _ _ hf hB
  refine ⟨j, vn, vk, ?_, h1, h2, Nat.le_trans h3 hB, h4⟩
  have e2 : cs = (cellJ j vn vk).toArray := by
    rw [← e]; simp [Value.cells]
  rw [e2]
end
end Go.Proofs.YtlhhiiemojhjdaaDoor
