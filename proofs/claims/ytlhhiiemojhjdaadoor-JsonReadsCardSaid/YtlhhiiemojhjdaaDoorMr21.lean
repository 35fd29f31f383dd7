/- Texts of this proof, laid into one: LaV, LaW, LaX, ShapedJ. -/
import Derived.Test.YtlhhiiemojhjdaaDoorMr20
import Derived.HandedShaped
import Derived.Test.YtlhhiiemojhjdaaDoorRows
import Derived.SevenTiedAt
set_option linter.unusedVariables false
set_option linter.unusedSimpArgs false
namespace Go.Proofs.YtlhhiiemojhjdaaDoor
open Go Go.RowKit
def SpKids (ks : List JsonD) : Prop := ∀ i, i < ks.length → ∀ W l h un uk, JO W (gK ks i) l h un uk → h ≤ W.heap.size → Calls Tryd.prog 27 #[.agg (cellJ (gK ks i) un uk).toArray] W fun e w' => e = .returned (.tuple #[]) ∧ GI l h W w'
theorem range_rest {W : World} {g q n : Nat} {cur : Array Value} {t : TypeId} {fr : Nat × Nat} {cs rest' : List Value} (h : W.heap[g]? = some (.cells cur t fr)) (hr : (cur.toList.drop (q * 4)).take n = cs ++ rest') : W.rangeAt g (q * 4) cs := fun j u hu => by
  have hj := (List.getElem?_eq_some_iff.1 hu).1
  rw [cell_of_row _ _ _ _ _ _ h, ← Array.getElem?_toList]
  have e : (cs ++ rest')[j]? = some u := by rw [List.getElem?_append_left hj]; exact hu
  rw [← hr, List.getElem?_take] at e
  split at e
  · rw [List.getElem?_drop] at e; exact e
  · cases e
def NmR (g n : Nat) (W : World) : Prop := ∃ cur, W.heap[g]? = some (.cells cur 9 (0, 0)) ∧ n ≤ cur.size
set_option maxRecDepth 100000 in
set_option maxHeartbeats 4000000 in
theorem spoil_step (k : Int) (t : Txt) (ns : List Txt) (ks : List JsonD) (lo hi : Nat) (w : World) (vn vk : Value) (hj : JO w (.mk k t ns ks) lo hi vn vk) (hh : hi ≤ w.heap.size) (hnl : ns.length ≤ 9223372036854775807) (hkl : ks.length ≤ 9223372036854775807) (IH : SpKids ks) :
    Calls Tryd.prog 27 #[.agg (jsonC k t vn vk).toArray] w fun e w' => e = .returned (.tuple #[]) ∧ GI lo hi w w' := by
  have hj0 := hj
  rw [JO] at hj
  obtain ⟨hlh, hn, hnb, hkb, cells, hk, hks⟩ := hj
  have HIH := Lib.hid IH
  obtain ⟨A, c, hvn, hc1, hc2, -⟩ := row_cells hn (by simp)
  obtain ⟨B, c', hvk, hc3, hc4, -⟩ := row_cells hk hk.1
  have HNm : Hid (0 < ns.length → ∃ g, vn = .slice (some ⟨g, 0, none⟩) ns.length c ∧ lo ≤ g ∧ g < hi ∧ NmR g ns.length w) := Lib.hid (fun h0 => by
    rcases hn.2 with ⟨_, h⟩ | ⟨g, cap, cur, h1, h2, h3, h4, h5, h6, h7⟩
    · omega
    · have e := hvn.symm.trans h1
      injection e with e1 _ e2
      subst e1
      refine ⟨g, hvn, h2, hnb g (by rw [hvn]; rfl), cur, h3, by omega⟩)
  have HKm : Hid (0 < ks.length → ∃ g cur, vk = .slice (some ⟨g, 0, none⟩) ks.length c' ∧ lo ≤ g ∧ g < hi ∧ w.heap[g]? = some (.cells cur 40 (0, 0)) ∧ cur.size = c' * 4 ∧ cur.toList.take (ks.length * 4) = cells) := Lib.hid (fun h0 => by
    rcases hk.2 with ⟨_, h⟩ | ⟨g, cap, cur, h1, h2, h3, h4, h5, h6, h7⟩
    · omega
    · have e := hvk.symm.trans h1
      injection e with e1 _ e2
      subst e1
      subst e2
      exact ⟨g, cur, hvk, h2, hkb g (by rw [hvk]; rfl), h3, h6, h7⟩)
  have HKs := Lib.hid hks
  have HNb := Lib.hid hnb
  have HN0 : Hid (∀ g cur, vn.ownBlock = some g → w.heap[g]? = some (.cells cur 40 (0, 0)) → False) := Lib.hid (fun g cur e h => by
    rcases hn.2 with ⟨e1, _⟩ | ⟨g1, c1, cur1, e1, _, e3, _⟩
    · rw [e1] at e; cases e
    · rw [e1] at e
      simp [Value.ownBlock] at e
      subst e
      rw [e3] at h
      injection h with h
      injection h with _ h _
      exact absurd h (by decide))
  have HKb := Lib.hid hkb
  clear hj0 hn hk hks hnb hkb
  subst hvn
  subst hvk
  go_enter Tryd.func27, Tryd.ntmps27
  go_upto_region 2 with (fail)
  obtain ⟨W1, hW1⟩ : ∃ W1, w.alloc (.cells (jsonC k t (.slice A ns.length c) (.slice B ks.length c')).toArray 40) = W1 := ⟨_, rfl⟩
  have hr1 : W1.heap[w.heap.size]? = some (.cells (jsonC k t (.slice A ns.length c) (.slice B ks.length c')).toArray 40 (0, 0)) := by rw [← hW1]; exact heap_alloc_new w _
  have hq1 : Q w W1 := by rw [← hW1]; exact (Q.refl w).alloc _
  rw [hW1]
  obtain ⟨jb, hjb⟩ : ∃ jb, w.heap.size = jb := ⟨_, rfl⟩
  rw [hjb] at hr1 hh ⊢
  have HR1 := Lib.hid hr1
  have HQ1 := Lib.hid hq1
  clear hW1 hr1 hq1 hjb
  go_loopg [2] (ns.length + 1) (fun gk i wx => ∃ q : Nat, gk = ns.length - q + 1 ∧ q ≤ ns.length ∧ i = .int .i64 (q : Int) ∧ Hid ((∀ b, b < W1.heap.size → (∀ g, (Value.slice A ns.length c).ownBlock = some g → b ≠ g) → wx.heap[b]? = W1.heap[b]?) ∧ GI lo hi w wx ∧ (∀ g, 0 < ns.length → (Value.slice A ns.length c).ownBlock = some g → NmR g ns.length wx) ∧ W1.heap.size ≤ wx.heap.size))
  case atStart => exact ⟨0, rfl, by omega, rfl, Lib.hid ⟨fun _ _ _ => rfl, GI.q HQ1.out, fun g h0 hg => by
    obtain ⟨g', e, _, _, cur, h1, h2⟩ := HNm.out h0
    rw [e] at hg
    simp [Value.ownBlock] at hg
    subst hg
    exact ⟨cur, HQ1.out.block h1, h2⟩, Nat.le_refl _⟩⟩
  case round =>
    obtain ⟨q, rfl, hq, rfl, HI⟩ := hrel
    rename World => wa
    by_cases hlt : q < ns.length
    · have hdq : decide (q < ns.length) = true := by simpa using hlt
      obtain ⟨g, e1, hg1, hg2, -⟩ := HNm.out (by omega)
      injection e1 with e1 _ _
      subst e1
      obtain ⟨hf, hgi, hnr, hsz⟩ := HI.out
      obtain ⟨cur, hc, hcs⟩ := hnr g (by omega) rfl
      have hb : wa.heap[jb]? = some (.cells (jsonC k t (.slice (some ⟨g, 0, none⟩) ns.length c) (.slice B ks.length c')).toArray 40 (0, 0)) := (hf jb (lt_of_heap HR1.out) (fun g' e => by simp [Value.ownBlock] at e; omega)).trans HR1.out
      have c2 : wa.cell? ⟨jb, 2, none⟩ = some (.slice (some ⟨g, 0, none⟩) ns.length c) := by rw [cell_of_row _ _ _ _ _ _ hb]; rfl
      have hcx : wa.cell? ⟨g, q, none⟩ = some cur[q] := by rw [cell_of_row _ _ _ _ _ _ hc, Array.getElem?_eq_getElem (by omega)]
      have hfx := frozen_of_row wa g q _ _ hc
      obtain ⟨cv, hcv⟩ : ∃ cv, cur[q] = cv := ⟨_, rfl⟩
      rw [hcv] at hcx
      have HN : Hid ((∀ b, b < W1.heap.size → (∀ g', (Value.slice (some ⟨g, 0, none⟩) ns.length c).ownBlock = some g' → b ≠ g') → (wa.setCell ⟨g, q, none⟩ (.string ⟨#[63]⟩)).heap[b]? = W1.heap[b]?) ∧ GI lo hi w (wa.setCell ⟨g, q, none⟩ (.string ⟨#[63]⟩)) ∧ (∀ g', 0 < ns.length → (Value.slice (some ⟨g, 0, none⟩) ns.length c).ownBlock = some g' → NmR g' ns.length (wa.setCell ⟨g, q, none⟩ (.string ⟨#[63]⟩))) ∧ W1.heap.size ≤ (wa.setCell ⟨g, q, none⟩ (.string ⟨#[63]⟩)).heap.size) := Lib.hid (by
        refine ⟨fun b h1 h2 => ?_, hgi.gx ((GX.refl [g] wa).set (by simp) _ _) hg1 hg2, fun g' h0 e => ?_, by simpa using hsz⟩
        · rw [heap_setCell_other wa ⟨g, q, none⟩ b _ (h2 g rfl)]; exact hf b h1 h2
        · simp [Value.ownBlock] at e
          subst e
          exact ⟨_, heap_setCell_any wa g q _ _ _ _ hc, by simpa using hcs⟩)
      clear HI hf hgi hnr hsz hc hcs hb hcv
      go_wp2_with fail
      go_roundg (ns.length - (q + 1) + 1)
      case measure => omega
      case rel => exact ⟨q + 1, rfl, by omega, by simp, HN⟩
    · have hdq : decide (q < ns.length) = false := by simpa using hlt
      obtain ⟨hf, hgi, hnr, hsz⟩ := HI.out
      have hb : wa.heap[jb]? = some (.cells (jsonC k t (.slice A ns.length c) (.slice B ks.length c')).toArray 40 (0, 0)) := (hf jb (lt_of_heap HR1.out) (fun g' e => by have := HNb.out g' e; omega)).trans HR1.out
      have c2 : wa.cell? ⟨jb, 2, none⟩ = some (.slice A ns.length c) := by rw [cell_of_row _ _ _ _ _ _ hb]; rfl
      have c3 : wa.cell? ⟨jb, 3, none⟩ = some (.slice B ks.length c') := by rw [cell_of_row _ _ _ _ _ _ hb]; rfl
      obtain ⟨X, hX⟩ : ∃ X : Nat → Prop, (fun b => (Value.slice A ns.length c).ownBlock = some b ∨ (Value.slice B ks.length c').ownBlock = some b) = X := ⟨_, rfl⟩
      have HXk : Hid (∀ b, (Value.slice B ks.length c').ownBlock = some b → X b) := Lib.hid (fun b e => by rw [← hX]; exact .inr e)
      have HKm2 : Hid (0 < ks.length → ∃ g, Value.slice B ks.length c' = .slice (some ⟨g, 0, none⟩) ks.length c' ∧ lo ≤ g ∧ g < hi ∧ SpK X ks g c' lo hi 0 wa) := Lib.hid (fun h0 => by
        obtain ⟨g, cur, e, h1, h2, h3, h4, h5⟩ := HKm.out h0
        have hks := HKs.out
        rw [hX] at hks
        have hle := HQ1.out.size
        have hfr : ∀ b, b < w.heap.size → ¬ X b → wa.heap[b]? = w.heap[b]? := fun b h6 h7 => by
          rw [hf b (by omega) (fun g' e' he => h7 (by rw [← hX, he]; exact .inl e'))]
          exact Below.block HQ1.out b h6
        have hrow : wa.heap[g]? = some (.cells cur 40 (0, 0)) := by
          rw [hf g (by have := lt_of_heap h3; omega) (fun g' e' he => HN0.out g' cur e' (he ▸ h3))]
          exact HQ1.out.block h3
        refine ⟨g, e, h1, h2, ⟨cur, cells, hrow, h4, ?_, ?_⟩, hc3⟩
        · rw [Nat.zero_mul, List.drop_zero, Nat.sub_zero]; exact h5
        · rw [List.drop_zero]
          exact JOK.frameX (fun b _ _ hx hs => hfr b hs hx) hks)
      have HB0 := Lib.hid hb
      have HGI := Lib.hid hgi
      have HSz := Lib.hid hsz
      clear hlt hf hgi hnr hsz hb HI hX
      go_upto_region 6 with (fail)
      clear c2 c3 hdq
      go_loopg [3] (ks.length + 1) (fun gk i wx => ∃ (q lo' : Nat), gk = ks.length - q + 1 ∧ q ≤ ks.length ∧ i = .int .i64 (q : Int) ∧ Hid (GI lo hi w wx ∧ wx.heap[jb]? = some (.cells (jsonC k t (.slice A ns.length c) (.slice B ks.length c')).toArray 40 (0, 0)) ∧ lo ≤ lo' ∧ (q < ks.length → ∃ g, Value.slice B ks.length c' = .slice (some ⟨g, 0, none⟩) ks.length c' ∧ lo ≤ g ∧ g < hi ∧ SpK X ks g c' lo' hi q wx)))
      case atStart => exact ⟨0, lo, rfl, by omega, rfl, Lib.hid ⟨HGI.out, HB0.out, Nat.le_refl _, HKm2.out⟩⟩
      case round =>
        obtain ⟨q, lo', rfl, hq, rfl, HI⟩ := hrel
        rename World => wb
        have c3 : wb.cell? ⟨jb, 3, none⟩ = some (.slice B ks.length c') := by rw [cell_of_row _ _ _ _ _ _ HI.out.2.1]; rfl
        by_cases hlt : q < ks.length
        · have hdq : decide (q < ks.length) = true := by simpa using hlt
          obtain ⟨g, e1, hg1, hg2, hsp⟩ := HI.out.2.2.2 hlt
          injection e1 with e1 _ _
          subst e1
          obtain ⟨⟨cur, rest, hrow, hcs, hrest, hjk⟩, hle⟩ := hsp
          obtain ⟨un, uk, rest', l, h', rfl, a1, a2, a3, a4, a5, a6⟩ := jok_cons hlt hjk
          have hjb := lt_of_heap HI.out.2.1
          have HRg := Lib.hid (range_rest hrow hrest)
          have HCl := Lib.hid (HIH.out q hlt wb l h' un uk a5 (by omega))
          have HIn : Hid ((Tryd.prog.info? 40).map (·.size) = some (cellJ (gK ks q) un uk).length) := Lib.hid (info_sz (gK ks q) un uk)
          have HSz4 := Lib.hid (rowJ_sz (-5) [] (.slice none 0 0) (.slice none 0 0))
          have HOne := Lib.hid (rowJ_one (k := -5) (t := []) (un := .slice none 0 0) (uk := .slice none 0 0) ⟨_, _, _, rfl⟩ ⟨_, _, _, rfl⟩)
          have HNx : Hid (∀ W', GI l h' wb W' → (W'.heap[jb]? = some (.cells (jsonC k t (.slice A ns.length c) (.slice (some ⟨g, 0, none⟩) ks.length c')).toArray 40 (0, 0))) ∧ W'.there g (q * 4) 4 ∧ GI lo hi w (W'.setCells g (q * 4) (jsonC (-5) [] (.slice none 0 0) (.slice none 0 0))) ∧ (W'.setCells g (q * 4) (jsonC (-5) [] (.slice none 0 0) (.slice none 0 0))).heap[jb]? = some (.cells (jsonC k t (.slice A ns.length c) (.slice (some ⟨g, 0, none⟩) ks.length c')).toArray 40 (0, 0)) ∧ SpK X ks g c' h' hi (q + 1) (W'.setCells g (q * 4) (jsonC (-5) [] (.slice none 0 0) (.slice none 0 0)))) := Lib.hid (fun W' hw => by
            obtain ⟨s1, s2, s3⟩ := spk_next (lo := lo) (vs := jsonC (-5) [] (.slice none 0 0) (.slice none 0 0)) (HXk.out g rfl) hlt hle hrow hcs hrest a4 a6 hw rfl
            refine ⟨(hw.block jb hjb (.inr (by omega))).trans HI.out.2.1, there_row s2 (by omega), ?_, (s3 jb hjb (.inr (by omega)) (by omega)).trans HI.out.2.1, s1⟩
            exact (HI.out.1.trans (hw.widen (by have := HI.out.2.2.1; omega) a3)).gx (GX.gb (setCells_gb g _ _ _) (by simp)) hg1 hg2)
          have hlo : lo ≤ h' := by have := HI.out.2.2.1; omega
          clear hrow hrest hjk a1 a2 a3 a4 a5 a6 hcs HI
          go_wp2_with (refine wpList_load_mid rfl 40 (.tmp 25) rfl g (q * 4) rfl (cellJ (gK ks q) un uk) _ HRg.out Tryd.underlying40 rfl HIn.out ?_; simp only [Act.put, List.setIfInBounds_toArray, List.set_cons_succ, List.set_cons_zero])
          refine HCl.out.mono ?_
          rintro e W2 ⟨rfl, hg3⟩
          obtain ⟨n1, n2, n3, n4, n5⟩ := HNx.out W2 hg3
          have HTh := Lib.hid n2
          have HN := Lib.hid (And.intro n3 (And.intro n4 n5))
          have c3 : W2.cell? ⟨jb, 3, none⟩ = some (.slice (some ⟨g, 0, none⟩) ks.length c') := by rw [cell_of_row _ _ _ _ _ _ n1]; rfl
          clear n1 n2 n3 n4 n5 hg3 HCl HNx
          go_wp2_with (refine wpList_store_mid rfl 40 (.tmp 32) (.tmp 31) rfl g (q * 4) (jsonC (-5) [] (.slice none 0 0) (.slice none 0 0)).toArray rfl rfl HTh.out HSz4.out HOne.out ?_)
          go_roundg (ks.length - (q + 1) + 1)
          case measure => omega
          case rel => exact ⟨q + 1, h', rfl, by omega, by simp, Lib.hid ⟨HN.out.1, HN.out.2.1, hlo, fun _ => ⟨g, rfl, hg1, hg2, HN.out.2.2⟩⟩⟩
        · have hdq : decide (q < ks.length) = false := by simpa using hlt
          have HX := Lib.hid HI.out.1
          clear HI
          go_wp2_with fail
          go_end0
          exact ⟨rfl, HX.out⟩
end Go.Proofs.YtlhhiiemojhjdaaDoor
set_option linter.unusedVariables false
set_option linter.unusedSimpArgs false
namespace Go.Proofs.YtlhhiiemojhjdaaDoor
open Go Go.RowKit
theorem spoil_all : ∀ (n : Nat) (j : JsonD), cntJ j ≤ n → ∀ (lo hi : Nat) (w : World) (vn vk : Value), JO w j lo hi vn vk → hi ≤ w.heap.size →
    Calls Tryd.prog 27 #[.agg (cellJ j vn vk).toArray] w fun e w' => e = .returned (.tuple #[]) ∧ GI lo hi w w'
  | 0, j, hn, _, _, _, _, _, _, _ => absurd hn (by have := cnt_pos j; omega)
  | n + 1, .mk k t ns ks, hn, lo, hi, w, vn, vk, hj, hh => by
    rw [cntJ] at hn
    have hj0 := hj
    rw [JO] at hj0
    obtain ⟨_, h1, _, _, cells, h2, _⟩ := hj0
    obtain ⟨A, c, _, a1, a2, _⟩ := row_cells h1 (by simp)
    obtain ⟨B, d, _, b1, b2, _⟩ := row_cells h2 h2.1
    have hm : maxLen ≤ 9223372036854775807 := by decide
    exact spoil_step k t ns ks lo hi w vn vk hj hh (by omega) (by omega) (fun i hi' W l h un uk hk hs => by
      have hc := cnt_gK hi'
      exact spoil_all n (gK ks i) (by omega) l h W un uk hk hs)
end Go.Proofs.YtlhhiiemojhjdaaDoor
set_option linter.unusedVariables false
set_option linter.unusedSimpArgs false
namespace Go.Proofs.YtlhhiiemojhjdaaDoor
open Go Go.RowKit
theorem parse_uo (s : Txt) (w : World) (hu : UT w) : Calls Tryd.prog 21 #[.string ⟨s.toArray⟩] w fun e w' => Q w w' ∧ ∃ vn vk ev, e = .returned (.tuple #[.agg (jsonC (pV s).kind (pV s).text vn vk).toArray, ev]) ∧ JO w' (pV s) w.heap.size w'.heap.size vn vk ∧ ErrV s w' ev := by
  refine (parse_any s w hu).mono ?_
  rintro e w' ⟨hq, h⟩
  refine ⟨hq, ?_⟩
  unfold pV ErrV
  cases hp : parseJ s with
  | ok v =>
    rw [hp] at h
    obtain ⟨vn, vk, rfl, hj⟩ := h
    exact ⟨vn, vk, _, rfl, hj, rfl⟩
  | error ca =>
    rw [hp] at h
    obtain ⟨bf, rfl, hf⟩ := h
    exact ⟨.slice none 0 0, .slice none 0 0, _, rfl, jo_nil hq.size, bf, rfl, hf⟩
set_option maxRecDepth 100000 in
set_option maxHeartbeats 4000000 in
theorem JsonReads_any (s : Txt) (w : World) (hu : UT w) : Calls Tryd.prog 10 #[.string ⟨s.toArray⟩] w fun e w' => e = .returned (.bool true) ∧ Q w w' := by
  have HU : Hid (∀ W, Q w W → UT W) := Lib.hid (fun W hq => Utf8Tabs_below hu hq)
  have HEx := Lib.hid (examples14 w hu)
  clear hu
  obtain ⟨C, hC⟩ : ∃ C, (toldN s).1 = C := ⟨_, rfl⟩
  obtain ⟨P, hP⟩ : ∃ P, (toldN s).2 = P := ⟨_, rfl⟩
  have HCP : Hid ((toldN s).1 = C ∧ (toldN s).2 = P) := Lib.hid ⟨hC, hP⟩
  have HOut : Hid ((C = 0 ∧ (rtB (pV s) 20 8000 && rtB (pV s) 20 8000 && eqJ (pV s) (pV s)) = true) ∨ (C ≠ 0 ∧ (pV s).kind = 0)) := Lib.hid (by
    rw [← hC]
    unfold toldN pV
    cases hp : parseJ s with
    | ok v => exact .inl ⟨rfl, by simp [(rt_parse hp).1, (eqJ_iff v v).2 rfl]⟩
    | error ca => exact .inr ⟨by have := parse_code hp; simp; omega, rfl⟩)
  clear hC hP
  go_enter Tryd.func10, Tryd.ntmps10
  go_wp2_with fail
  refine HEx.out.mono ?_
  rintro e w1 ⟨rfl, hq1⟩
  have HQ1 := Lib.hid hq1
  have HPa := Lib.hid (rparse_any s w1)
  clear hq1 HEx
  go_wp2_with fail
  refine HPa.out.mono ?_
  rintro e w2 ⟨hq2, vn, vk, rfl, hjo⟩
  have HQ2 := Lib.hid (HQ1.out.trans hq2)
  have HJw := Lib.hid hjo.read
  have HSz := Lib.hid (rowJ_sz (pV s).kind (pV s).text vn vk)
  have HOne := Lib.hid (rowJ_one (k := (pV s).kind) (t := (pV s).text) (jo_form hjo).1 (jo_form hjo).2)
  rw [HCP.out.1, HCP.out.2]
  clear hq2 hjo HPa
  go_upto_region 3 with (refine wpList_store_row rfl 40 (.tmp 4) (.tmp 18) rfl w2.heap.size (jsonC (pV s).kind (pV s).text vn vk).toArray rfl rfl 40 _ (heap_alloc_new w2 _) HSz.out rfl HOne.out ?_)
  obtain ⟨W0, hW0⟩ : ∃ W0, (w2.alloc (.cells #[.int .i64 0, .string ⟨#[]⟩, .slice none 0 0, .slice none 0 0] 40)).setRow w2.heap.size (jsonC (pV s).kind (pV s).text vn vk).toArray = W0 := ⟨_, rfl⟩
  have hk0 : W0.heap[w2.heap.size]? = some (.cells (jsonC (pV s).kind (pV s).text vn vk).toArray 40 (0, 0)) := by rw [← hW0]; exact setRow_at (heap_alloc_new w2 _) _
  have hq0 : Q w2 W0 := by rw [← hW0]; exact ((Q.refl w2).alloc _).setRow (Nat.le_refl _) _
  rw [hW0]
  obtain ⟨jb, hjb⟩ : ∃ jb, w2.heap.size = jb := ⟨_, rfl⟩
  rw [hjb] at hk0 ⊢
  have HK0 := Lib.hid hk0
  have HQ0 := Lib.hid (HQ2.out.trans hq0)
  have HJ0 := Lib.hid (HJw.out.q hq0)
  clear hW0 hk0 hq0 hjb HQ1 HJw
  go_wp2_with fail
  go_loopg [7] 3 (fun gk i wx => ∃ q : Nat, gk = 2 - q + 1 ∧ q ≤ 2 ∧ i = .int .i64 (q : Int) ∧ Hid (Q W0 wx))
  case atStart => exact ⟨0, rfl, by omega, rfl, Lib.hid (Q.refl W0)⟩
  case round =>
    obtain ⟨q, rfl, hq, rfl, HI⟩ := hrel
    rename World => wa
    by_cases hlt : q < 2
    · have hdq : decide ((q : Int) < 2) = true := by simp; omega
      have HPr := Lib.hid (parse_uo s wa (HU.out wa (HQ0.out.trans HI.out)))
      clear hlt
      go_wp2_with fail
      refine HPr.out.mono ?_
      rintro e w3 ⟨hq3, un, uk, ev, rfl, hjo, hev⟩
      have HSz2 := Lib.hid (rowJ_sz (pV s).kind (pV s).text un uk)
      have HOne2 := Lib.hid (rowJ_one (k := (pV s).kind) (t := (pV s).text) (jo_form hjo).1 (jo_form hjo).2)
      have HQ3 := Lib.hid hq3
      have HJo := Lib.hid hjo
      have HEv := Lib.hid hev
      clear hq3 hjo hev HPr
      go_upto_region 7 with (refine wpList_store_row rfl 40 (.tmp 8) (.tmp 28) rfl w3.heap.size (jsonC (pV s).kind (pV s).text un uk).toArray rfl rfl 40 _ (heap_alloc_new w3 _) HSz2.out rfl HOne2.out ?_)
      obtain ⟨W4, hW4⟩ : ∃ W4, (w3.alloc (.cells #[.int .i64 0, .string ⟨#[]⟩, .slice none 0 0, .slice none 0 0] 40)).setRow w3.heap.size (jsonC (pV s).kind (pV s).text un uk).toArray = W4 := ⟨_, rfl⟩
      have hk4 : W4.heap[w3.heap.size]? = some (.cells (jsonC (pV s).kind (pV s).text un uk).toArray 40 (0, 0)) := by rw [← hW4]; exact setRow_at (heap_alloc_new w3 _) _
      have hq4 : Q w3 W4 := by rw [← hW4]; exact ((Q.refl w3).alloc _).setRow (Nat.le_refl _) _
      rw [hW4]
      obtain ⟨kb, hkb⟩ : ∃ kb, w3.heap.size = kb := ⟨_, rfl⟩
      rw [hkb] at hk4 ⊢
      have HK4 := Lib.hid hk4
      have HQ4 := Lib.hid hq4
      have HTo := told_u s W4 ev (HEv.out.q hq4)
      rw [HCP.out.1, HCP.out.2] at HTo
      have HTo := Lib.hid HTo
      clear hW4 hk4 hq4 hkb
      go_wp2_with fail
      refine HTo.out.mono ?_
      rintro e w5 ⟨rfl, hq5⟩
      have HQ5 := Lib.hid (HQ4.out.trans hq5)
      have HK5 := Lib.hid (hq5.block HK4.out)
      have HKw := Lib.hid (((HI.out.trans HQ3.out).trans HQ5.out).block HK0.out)
      have HSa := Lib.hid (rSame_any (pV s) (pV s) w5 un uk vn vk (HJo.out.read.q HQ5.out) (HJ0.out.q ((HI.out.trans HQ3.out).trans HQ5.out)) (bigJ_mono (by decide) _ (pV_big s)) (bigJ_mono (by decide) _ (pV_big s)))
      clear hq5 HTo
      go_wp2_with (first | refine wpList_load_row rfl 40 (.tmp 8) rfl kb rfl 40 (jsonC (pV s).kind (pV s).text un uk).toArray (0, 0) _ HK5.out Tryd.underlying40 rfl HSz2.out ?_ | refine wpList_load_row rfl 40 (.tmp 4) rfl jb rfl 40 (jsonC (pV s).kind (pV s).text vn vk).toArray (0, 0) _ HKw.out Tryd.underlying40 rfl HSz.out ?_)
      refine HSa.out.mono ?_
      rintro e w6 ⟨rfl, hq6⟩
      have HQ6 := Lib.hid (HQ5.out.trans hq6)
      have HK6 := Lib.hid (hq6.block HK5.out)
      have x0 : w6.cell? ⟨kb, 0, none⟩ = some (.int .i64 (pV s).kind) := by rw [cell_of_row _ _ _ _ _ _ HK6.out]; rfl
      have HSp := Lib.hid (spoil_all (cntJ (pV s)) (pV s) (Nat.le_refl _) wa.heap.size w3.heap.size w6 un uk (JO.frame _ _ _ _ _ (fun b _ _ h => Below.block HQ6.out b h) HJo.out) HQ6.out.size)
      have hCC : (C != C) = false := by simp
      have hPP : (P != P) = false := by simp
      obtain ⟨S, hS⟩ : ∃ S, (rtB (pV s) 20 8000 && rtB (pV s) 20 8000 && eqJ (pV s) (pV s)) = S := ⟨_, rfl⟩
      obtain ⟨kd, hkd⟩ : ∃ kd, (pV s).kind = kd := ⟨_, rfl⟩
      have HOu : Hid ((C = 0 ∧ S = true) ∨ (C ≠ 0 ∧ kd = 0)) := Lib.hid (by rw [← hS, ← hkd]; exact HOut.out)
      rw [hS]
      rw [hkd] at x0
      clear hq6 HSa hS hkd
      rcases HOu.out with ⟨h1, h2⟩ | ⟨h1, h2⟩
      case' inl =>
        have c1 : (C == 0) = true := by simpa using h1
        have c2 : (C != 0) = false := by simpa using h1
        subst h2
      case' inr =>
        have c1 : (C == 0) = false := by simpa using h1
        have c2 : (C != 0) = true := by simpa using h1
        subst h2
      all_goals
        clear h1 HOu
        go_wp2_with (refine wpList_load_row rfl 40 (.tmp 8) rfl kb rfl 40 (jsonC (pV s).kind (pV s).text un uk).toArray (0, 0) _ HK6.out Tryd.underlying40 rfl HSz2.out ?_)
        refine HSp.out.mono ?_
        rintro e w7 ⟨rfl, hgi⟩
        have HN : Hid (Q W0 w7) := Lib.hid (HI.out.trans (hgi.toQ (HQ3.out.trans HQ6.out) (Nat.le_refl _)))
        clear hgi HSp x0
        go_wp2_with fail
        go_roundg (2 - (q + 1) + 1)
        case measure => have : q < 2 := by simp at hdq; omega
                        omega
        case rel => exact ⟨q + 1, rfl, by simp at hdq; omega, by simp, HN⟩
    · have hdq : decide ((q : Int) < 2) = false := by simp; omega
      have HX := Lib.hid (HQ0.out.trans HI.out)
      clear HI hlt
      go_wp2_with fail
      go_ret
      exact ⟨rfl, HX.out⟩
end Go.Proofs.YtlhhiiemojhjdaaDoor
set_option linter.unusedVariables false
namespace Go.Proofs.YtlhhiiemojhjdaaDoor
open Go Go.RowKit
theorem returnsInHanded_and_shaped {H : Type} {enc : TypeId × Value → H} {a : Assume} {C : Checked} {os : Os} {f : FuncId} {fn : Func} {s : ChangeSpec} {conds : List PathCond} {apart fresh handsOn again : Bool} {X : World → Array Value → Prop}
    (hX : ∀ (w w' : World) (args : Array Value), w.heap = w'.heap → X w args → X w' args)
    (own : ownKnob C.prog.godebug = none) (started : os.Started) (noInit : C.prog.inits.idxOf? f = none) (hfn : C.prog.funcs[f]? = some fn)
    (witness : ∃ (w : World) (tape : Tape) (i : Input), w.os = os ∧ (w.forCall tape i).Shaped C.prog ∧ i.vars = [] ∧ Input.okWide C.prog (w.forCall tape i) .any w.heap.size f i ∧
      ((s.pre enc C.prog fn conds apart (w.forCall tape i).memory i.args ∧ X (w.forCall tape i).memory i.args) ∧ sizedMet enc C.prog fn (OpenSpec.ofChange s) apart (w.forCall tape i).memory i.args) ∧ a.holds C.prog (lone (Frame.enter C.prog f i.args .normal) [] (w.forCall tape i)))
    (contract : ∀ (W : World) (base : Nat) (args : Array Value) (ds gs : List (DataW H)) (before : List MemPlace),
      (∀ (j : Nat) t v, fn.params[j]? = some t → args[j]? = some v → Value.okWide C.prog W .any base t v) →
      DataW.Whole enc C.prog fn.params.toList s.vars apart W args.toList ds gs before →
      conds.all (PathCond.test C.prog ⟨fn.params.toList, ds, s.plain.varTypes C.prog, gs⟩) = true →
      (DataW.weightsEach C.prog (fn.params.toList ++ s.plain.varTypes C.prog) (ds ++ gs)).all (· ≤ reachBytes) = true → X W args →
      W.ShapedOpen C.prog →
      a.holds C.prog (lone (Frame.enter C.prog f args .normal) [] W) →
      Calls C.prog f args W fun e W' => ∃ v, e = .returned v ∧ s.post enc C.prog fn apart fresh handsOn again W args v W') :
    ReturnsInHanded a C os f .any (fun w args => (s.pre enc C.prog fn conds apart w args ∧ X w args) ∧ sizedMet enc C.prog fn (OpenSpec.ofChange s) apart w args) (s.post enc C.prog fn apart fresh handsOn again) := by
  refine returnsInHanded_of_calls own started noInit witness ?_
  intro w tape i _ hsh _ hok hpre hholds
  obtain ⟨_, _, _, fn', hfn', _, _, _, _, hval⟩ := hok
  have e : fn' = fn := Option.some.inj (hfn'.symm.trans hfn)
  subst e
  obtain ⟨⟨⟨ds, gs, before, hw, hc⟩, hx⟩, hz⟩ := hpre
  have hw' := DataW.Whole.of_heap (w' := w.forCall tape i) (by rfl) hw
  refine (contract (w.forCall tape i) w.heap.size i.args ds gs before hval hw' hc (hz.weights hw) (hX _ _ _ (by rfl) hx) hsh hholds).mono fun e W' ⟨v, he, hp⟩ => ?_
  subst he
  exact ChangeSpec.post_blind hp
theorem door_laidJ (os : Os) (args : Array Value) : laidMetH Tryd.prog laidJ ((World.laidAll Tryd.prog os laidJ).forCall (fun _ _ => 0) ⟨#[], args, []⟩).memory := by
  rw [MakeChecks.laidMetH_plain _ _ _ (by kernel_rfl)]; exact laid_metJ os args
end Go.Proofs.YtlhhiiemojhjdaaDoor
