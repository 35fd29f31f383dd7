/- Texts of this proof, laid into one: KdF, KdG, KeA, KeB, KeC. -/
import Derived.Test.YtlhhiiemojhjdaaDoorMp19
/- The writer: lists and objects (printed by genkdf.py). -/
set_option linter.unusedVariables false
set_option linter.unusedSimpArgs false
namespace Go.Proofs.YtlhhiiemojhjdaaDoor
open Go Go.RowKit
theorem writeKs_snoc (j : JsonD) : ∀ (a : List JsonD) (first : Bool), writeKs (a ++ [j]) first = writeKs a first ++ (commaJ (first && a.isEmpty) ++ writeJ j)
  | [], first => by simp [writeKs]
  | x :: r, first => by
    rw [List.cons_append, writeKs, writeKs, writeKs_snoc j r false]
    simp
theorem writePs_snoc (j : JsonD) : ∀ (a : List JsonD) (ns : List Txt) (first : Bool), writePs (a ++ [j]) ns first = writePs a ns first ++ (commaJ (first && a.isEmpty) ++ (quoteJ (gL ns a.length) ++ 58 :: writeJ j))
  | [], ns, first => by cases ns <;> simp [writePs, gL, List.getD]
  | x :: r, ns, first => by
    have e : gL ns.tail r.length = gL ns (x :: r).length := by cases ns <;> simp [gL, List.getD]
    rw [List.cons_append, writePs, writePs, writePs_snoc j r ns.tail false, e]
    simp
/-- What stands ahead of kid i. -/
def partW (k : Int) (ns : List Txt) (ks : List JsonD) (i : Nat) : Txt := if k = 7 then 123 :: writePs (ks.take i) ns true else 91 :: writeKs (ks.take i) true
def nameW (k : Int) (ns : List Txt) (i : Nat) : Txt := if k = 7 then quoteJ (gL ns i) ++ [58] else []
theorem partW_next (k : Int) (ns : List Txt) (ks : List JsonD) (i : Nat) (hi : i < ks.length) : partW k ns ks (i + 1) = partW k ns ks i ++ (commaJ (i == 0) ++ (nameW k ns i ++ writeJ (gK ks i))) := by
  have e : (ks.take i).isEmpty = (i == 0) := by
    cases i with
    | zero => rfl
    | succ m => cases ks with
      | nil => cases hi
      | cons x r => rfl
  have el : (ks.take i).length = i := by rw [List.length_take]; omega
  unfold partW nameW
  rw [gK_take ks i hi]
  by_cases hk : k = 7
  · rw [if_pos hk, if_pos hk, if_pos hk, writePs_snoc, e, el]; simp
  · rw [if_neg hk, if_neg hk, if_neg hk, writeKs_snoc, e]; simp
theorem numKs_take (ks : List JsonD) (i : Nat) (hi : i < ks.length) : numKs (ks.take (i + 1)) = (numKs (ks.take i) && numJ (gK ks i)) := by
  rw [gK_take ks i hi, numKs_app, numKs, numKs]; simp
theorem numKs_bad {ks : List JsonD} {i : Nat} (hi : i < ks.length) (h : numJ (gK ks i) = false) : numKs ks = false := by
  have e : ks = ks.take i ++ gK ks i :: ks.drop (i + 1) := by
    rw [← gK_dropJ ks i hi, List.take_append_drop]
  rw [e, numKs_app, numKs, h]; simp
theorem big_kid {N : Nat} {k : Int} {t : Txt} {ns : List Txt} {ks : List JsonD} (h : bigJ N (.mk k t ns ks)) {i : Nat} (hi : i < ks.length) : bigJ N (gK ks i) := by
  rw [bigJ] at h
  rw [gK_get ks i hi]
  exact (bigKs_iff N ks).1 h.2.2 _ (List.getElem_mem hi)
theorem big_name {k : Int} {t : Txt} {ns : List Txt} {ks : List JsonD} (h : bigJ 1100000 (.mk k t ns ks)) (i : Nat) : (gL ns i).length ≤ 9223372036854775807 := by
  rw [bigJ] at h
  by_cases hi : i < ns.length
  · have := h.2.1 (gL ns i) (by simp [gL, List.getD, hi])
    omega
  · have e : gL ns i = [] := by simp [gL, List.getD, Nat.le_of_not_lt hi]
    rw [e]; simp
/-- So many kids are written. -/
def KdI (B b : Nat) (f : Txt) (k : Int) (ns : List Txt) (ks : List JsonD) (W1 : World) (i : Nat) (W : World) : Prop := WR B b (f ++ partW k ns ks i) W ∧ KW B b W1 W ∧ numKs (ks.take i) = true
def KidsW (B b : Nat) (ks : List JsonD) (w0 : World) : Prop := ∀ i, i < ks.length → ∀ (f : Txt) (d : Nat) (W : World) (vn vk : Value), ToW B b f (gK ks i) d w0 W vn vk → Calls Tryd.prog 41 #[.pointer (some ⟨b, 0, none⟩), .agg (cellJ (gK ks i) vn vk).toArray] W (ValW B b f (gK ks i) W)
theorem kdDone {B b : Nat} {f : Txt} {k : Int} {t : Txt} {ns : List Txt} {ks : List JsonD} {w W1 W W' : World} {e : Ending} (hk : k = 6 ∨ k = 7) (hq : Q w W1) (h : KdI B b f k ns ks W1 ks.length W) (c : UInt8) (hc : c = if k = 7 then 125 else 93) (hp : PutP B b ((f ++ partW k ns ks ks.length) ++ [c]) W e W') :
    e = .returned (.tuple #[]) ∧ ValW B b f (.mk k t ns ks) w (.returned (.bool true)) W' := by
  subst hc
  obtain ⟨h1, h2, h3⟩ := h
  rw [List.take_length] at h3
  obtain ⟨p1, p2, p3⟩ := hp
  have hn : numJ (.mk k t ns ks) = true := by
    rw [numJ, h3]
    simp; omega
  refine ⟨p1, by rw [hn], ((KW.q hq).trans h2).trans p3, fun _ => ?_⟩
  have e : writeJ (.mk k t ns ks) = partW k ns ks ks.length ++ [if k = 7 then 125 else 93] := by
    rw [writeJ]
    unfold partW
    rw [List.take_length]
    rcases hk with rfl | rfl
    · simp
    · simp
  rw [e, ← List.append_assoc]
  exact p2
theorem kdStop {B b : Nat} {f : Txt} {k : Int} {t : Txt} {ns : List Txt} {ks : List JsonD} {w W1 W : World} {i : Nat} (hq : Q w W1) (h : KW B b W1 W) (hi : i < ks.length) (hn : numJ (gK ks i) = false) : ValW B b f (.mk k t ns ks) w (.returned (.bool false)) W := by
  have e : numJ (.mk k t ns ks) = false := by rw [numJ, numKs_bad hi hn]; simp
  exact ⟨by rw [e], (KW.q hq).trans h, fun h => by rw [e] at h; cases h⟩
theorem kdNext {B b : Nat} {f : Txt} {k : Int} {ns : List Txt} {ks : List JsonD} {W1 W W' : World} {i : Nat} (h : KdI B b f k ns ks W1 i W) (hi : i < ks.length) (hn : numJ (gK ks i) = true) (hk : KW B b W W') (hw : WR B b (((f ++ partW k ns ks i) ++ commaJ (i == 0)) ++ nameW k ns i ++ writeJ (gK ks i)) W') : KdI B b f k ns ks W1 (i + 1) W' := by
  refine ⟨?_, h.2.1.trans hk, by rw [numKs_take ks i hi, h.2.2, hn]; rfl⟩
  rw [partW_next k ns ks i hi]
  simpa using hw
theorem kdStart {B b : Nat} {f : Txt} {k : Int} {ns : List Txt} {ks : List JsonD} {W1 W : World} {e : Ending} (c : UInt8) (hc : c = if k = 7 then 123 else 91) (hp : PutP B b (f ++ [c]) W1 e W) : e = .returned (.tuple #[]) ∧ KdI B b f k ns ks W1 0 W := by
  subst hc
  obtain ⟨p1, p2, p3⟩ := hp
  refine ⟨p1, ?_, p3, by rw [List.take_zero, numKs]⟩
  unfold partW
  rw [List.take_zero, writeKs, writePs]
  by_cases hk : k = 7
  · rw [if_pos hk] at p2 ⊢; exact p2
  · rw [if_neg hk] at p2 ⊢; exact p2
set_option maxRecDepth 100000 in
theorem value_kids6 (B b : Nat) (f : Txt) (t : Txt) (ns : List Txt) (ks : List JsonD) (d : Nat) (w0 w : World) (vn vk : Value) (h : ToW B b f (.mk 6 t ns ks) d w0 w vn vk) (IH : KidsW B b ks w0) :
    Calls Tryd.prog 41 #[.pointer (some ⟨b, 0, none⟩), .agg (cellJ (.mk 6 t ns ks) vn vk).toArray] w (ValW B b f (.mk 6 t ns ks) w) := by
  have hcl := cnt_len ks
  have hcn := h.cnt
  rw [cntJ] at hcn
  have hkl : ks.length ≤ 8000 := by omega
  have hkid := h.jv.kidAt
  have hns : NsV w0 vn ns := by have := h.jv; rw [JV] at this; exact this.1
  obtain ⟨A2, c2n, rfl, hc1, hc2, hkd⟩ := hkid
  obtain ⟨A1, c1n, rfl, hn1, hn2, hn3⟩ := hns.at
  have HN3 := Lib.hid hn3
  have HKd := Lib.hid hkd
  have H := Lib.hid h
  have HIH := Lib.hid IH
  have HWf := Lib.hid (fun i (hi : i < ks.length) => wf_kid h.wf hi)
  have HCnt : Hid (∀ i, i < ks.length → cntJ (gK ks i) ≤ 8000) := Lib.hid (fun i hi => by have := cnt_gK hi; omega)
  have HNl : Hid (∀ i, (gL ns i).length ≤ 9223372036854775807) := Lib.hid (fun i => big_name h.big i)
  clear h hn3 hkd hns IH hcl hcn
  go_enter Tryd.func41, Tryd.ntmps41
  go_upto_region 1 with (fail)
  obtain ⟨J, hJ⟩ : ∃ J, w.heap.size = J := ⟨_, rfl⟩
  have e1 := heap_alloc_new w (.cells (cellJ (.mk 6 t ns ks) (.slice A1 ns.length c1n) (.slice A2 ks.length c2n)).toArray 40)
  obtain ⟨W1, hW1⟩ : ∃ W1, w.alloc (.cells (cellJ (.mk 6 t ns ks) (.slice A1 ns.length c1n) (.slice A2 ks.length c2n)).toArray 40) = W1 := ⟨_, rfl⟩
  have q1 : Q w W1 := by rw [← hW1]; exact (Q.refl w).alloc _
  rw [hW1, hJ] at e1
  rw [hW1, hJ]
  have HE1 := Lib.hid e1
  have HQ1 := Lib.hid q1
  have HJ := Lib.hid hJ
  have HWR := Lib.hid (H.out.wr.q q1)
  have HBase : Hid (∀ W, KW B b W1 W → Q w0 W ∧ B ≤ W.heap.size ∧ W.heap[J]? = some (.cells (cellJ (.mk 6 t ns ks) (.slice A1 ns.length c1n) (.slice A2 ks.length c2n)).toArray 40 (0, 0))) := Lib.hid (fun W hk =>
    ⟨((KW.q HQ1.out).trans hk).toQ H.out.q H.out.lo (by have := H.out.lo; have := H.out.hi; omega), by have := H.out.sz; have := HQ1.out.size; have := hk.size; omega, hk.block J _ HE1.out (by have := H.out.hi; have := H.out.sz; have := HJ.out; omega) (.inr fun c fz e => by injection e with _ e _; exact absurd e (by decide))⟩)
  have x0 : W1.cell? ⟨J, 0, none⟩ = some (.int .i64 6) := by rw [cell_of_row _ _ _ _ _ _ HE1.out]; rfl
  have HP0 := Lib.hid (put_any B b f [91] W1 HWR.out (HBase.out W1 (KW.refl _ _ _)).2.1 (by simp))
  clear e1 q1 hJ hW1
  go_wp2_with fail
  refine (put_as HP0.out (by rfl)).mono ?_
  intro e w2 hp
  obtain ⟨rfl, hi0⟩ := kdStart (k := 6) (ns := ns) (ks := ks) 91 (by decide) hp
  have HI0 := Lib.hid hi0
  have x3 : w2.cell? ⟨J, 3, none⟩ = some (.slice A2 ks.length c2n) := by rw [cell_of_row _ _ _ _ _ _ (HBase.out w2 HI0.out.2.1).2.2]; rfl
  clear hp hi0 x0
  go_upto_region 7 with (fail)
  clear x3
  go_loopw [22] (fun i wx => ∃ n : Nat, n ≤ ks.length ∧ i = .int .i64 n ∧ Hid (KdI B b f 6 ns ks W1 n wx)) (fun i _ => ks.length - (intOf i).toNat)
  case atStart => exact ⟨0, Nat.zero_le _, rfl, HI0⟩
  case round =>
    obtain ⟨i, hil, rfl, HI⟩ := hrel
    rename World => wa
    by_cases hlt : i < ks.length
    · have hd : decide (i < ks.length) = true := by simpa using hlt
      obtain ⟨g, off, un, uk, hA⟩ := HKd.out i hlt
      obtain rfl := hA.a
      have HB1 := Lib.hid (HBase.out wa HI.out.2.1)
      have HA := Lib.hid (hA.q HB1.out.1)
      have HJv := Lib.hid hA.jv
      have HRg := Lib.hid HA.out.rg
      have HIn := Lib.hid (info_sz (gK ks i) un uk)
      have HOne := Lib.hid (cellJ_one (j := gK ks i) (jv_slices hA.jv).1 (jv_slices hA.jv).2)
      clear hA
      go_upto_region 8 with (fail)
      iterate 7 go_step
      refine wpList_load_mid rfl 40 (.tmp 25) rfl g (off + i * 4) rfl (cellJ (gK ks i) un uk) _ HRg.out Tryd.underlying40 rfl HIn.out ?_
      simp only [Act.put, List.setIfInBounds_toArray, List.set_cons_succ, List.set_cons_zero]
      go_upto_region 9 with (refine wpList_store_row rfl 40 (.tmp 9) (.tmp 26) rfl wa.heap.size (cellJ (gK ks i) un uk).toArray rfl rfl 40 _ (heap_alloc_new wa _) HIn.out rfl HOne.out ?_)
      simp only [Act.put]
      have HB3 : Hid (((wa.alloc (.cells #[.int .i64 0, .string ⟨#[]⟩, .slice none 0 0, .slice none 0 0] 40)).setRow wa.heap.size (cellJ (gK ks i) un uk).toArray).heap[wa.heap.size]? = some (.cells (cellJ (gK ks i) un uk).toArray 40 (0, 0))) := Lib.hid (setRow_at (heap_alloc_new wa _) _)
      have HQ3 : Hid (Q wa ((wa.alloc (.cells #[.int .i64 0, .string ⟨#[]⟩, .slice none 0 0, .slice none 0 0] 40)).setRow wa.heap.size (cellJ (gK ks i) un uk).toArray)) := Lib.hid (((Q.refl wa).alloc _).setRow (Nat.le_refl _) _)
      obtain ⟨N3, hN3⟩ : ∃ N3, wa.heap.size = N3 := ⟨_, rfl⟩
      obtain ⟨W5, hW5⟩ : ∃ W5, (wa.alloc (.cells #[.int .i64 0, .string ⟨#[]⟩, .slice none 0 0, .slice none 0 0] 40)).setRow N3 (cellJ (gK ks i) un uk).toArray = W5 := ⟨_, rfl⟩
      rw [hN3, hW5] at HB3 HQ3
      rw [hN3, hW5]
      have HNb : Hid (N3 ≠ b) := Lib.hid (by have := H.out.hi; have := HB1.out.2.1; omega)
      clear hN3 hW5
      have HKid : Hid (∀ W, KW B b W5 W → W.heap[N3]? = some (.cells (cellJ (gK ks i) un uk).toArray 40 (0, 0))) := Lib.hid (fun W hk => hk.block N3 _ HB3.out HNb.out (.inr fun c fz e => by injection e with _ e _; exact absurd e (by decide)))
      have HW5 : Hid (WR B b (f ++ partW 6 ns ks i) W5) := Lib.hid (HI.out.1.q HQ3.out)
      have HK5 : Hid (KW B b wa W5) := Lib.hid (KW.q HQ3.out)
      by_cases h0 : i = 0
      · have hz : decide (0 < i) = false := by simp; omega
        have hc0 : (i == 0) = true := by simpa using h0
        have HW6 : Hid (WR B b ((f ++ partW 6 ns ks i) ++ commaJ (i == 0)) W5) := Lib.hid (by rw [hc0]; have := HW5.out; simpa [commaJ] using this)
        have HK6 : Hid (KW B b W5 W5) := Lib.hid (KW.refl _ _ _)
        have x0 : W5.cell? ⟨J, 0, none⟩ = some (.int .i64 6) := by rw [cell_of_row _ _ _ _ _ _ (HBase.out W5 (HI.out.2.1.trans HK5.out)).2.2]; rfl
        clear hc0 h0
        have HW8 : Hid (WR B b (((f ++ partW 6 ns ks i) ++ commaJ ((i : Nat) == 0)) ++ nameW 6 ns i) W5) := Lib.hid (by have := HW6.out; simpa [nameW] using this)
        have HK8 : Hid (KW B b W5 W5) := Lib.hid (KW.refl _ _ _)
        have HKA : Hid (KW B b W5 W5) := Lib.hid (HK6.out.trans HK8.out)
        have HKB : Hid (KW B b W1 W5) := Lib.hid ((HI.out.2.1.trans HK5.out).trans HKA.out)
        have HTo := Lib.hid (HIH.out i hlt _ _ W5 un uk ⟨HW8.out, (HBase.out W5 HKB.out).1, H.out.lo, H.out.hi, (HBase.out W5 HKB.out).2.1, HJv.out, (HWf.out i hlt).choose_spec, HCnt.out i hlt, big_kid H.out.big hlt⟩)
        have HRow := Lib.hid (HKid.out W5 HKA.out)
        go_upto_region 14 with (fail)
        go_wp2_with (refine wpList_load_row rfl 40 (.tmp 9) rfl N3 rfl 40 (cellJ (gK ks i) un uk).toArray (0, 0) _ HRow.out Tryd.underlying40 rfl HIn.out ?_; simp only [Act.put, List.setIfInBounds_toArray, List.set_cons_succ, List.set_cons_zero])
        refine HTo.out.mono ?_
        rintro e W9 ⟨rfl, hk9, hw9⟩
        have HK9 := Lib.hid (HKB.out.trans hk9)
        obtain ⟨r, hr⟩ : ∃ r, numJ (gK ks i) = r := ⟨_, rfl⟩
        rw [hr] at hw9
        rw [hr]
        cases r with
        | false =>
          have HX := Lib.hid (kdStop (f := f) (k := 6) (t := t) (ns := ns) (w := w) HQ1.out HK9.out hlt hr)
          clear hr hk9 hw9
          go_wp2_with fail
          go_ret
          exact HX.out
        | true =>
          have HX := Lib.hid (kdNext HI.out hlt hr ((HK5.out.trans HKA.out).trans hk9) (hw9 rfl))
          clear hr hk9 hw9
          go_wp2_with fail
          go_roundw
          case rel => exact ⟨i + 1, by omega, by go_num, HX⟩
          case measure => simp [intOf]; omega
      · have hz : decide (0 < i) = true := by simp; omega
        have hc0 : (i == 0) = false := by simpa using h0
        have HPc := Lib.hid (put_any B b (f ++ partW 6 ns ks i) [44] W5 HW5.out (HBase.out W5 (HI.out.2.1.trans HK5.out)).2.1 (by simp))
        go_upto_region 10 with (fail)
        go_wp2_with fail
        refine HPc.out.mono ?_
        rintro e W6 ⟨rfl, hw6, hk6⟩
        have HW6 : Hid (WR B b ((f ++ partW 6 ns ks i) ++ commaJ (i == 0)) W6) := Lib.hid (by rw [hc0]; exact hw6)
        have HK6 := Lib.hid hk6
        have x0 : W6.cell? ⟨J, 0, none⟩ = some (.int .i64 6) := by rw [cell_of_row _ _ _ _ _ _ (HBase.out W6 ((HI.out.2.1.trans HK5.out).trans hk6)).2.2]; rfl
        clear hw6 hk6 hc0 hz HPc
        have HW8 : Hid (WR B b (((f ++ partW 6 ns ks i) ++ commaJ ((i : Nat) == 0)) ++ nameW 6 ns i) W6) := Lib.hid (by have := HW6.out; simpa [nameW] using this)
        have HK8 : Hid (KW B b W6 W6) := Lib.hid (KW.refl _ _ _)
        have HKA : Hid (KW B b W5 W6) := Lib.hid (HK6.out.trans HK8.out)
        have HKB : Hid (KW B b W1 W6) := Lib.hid ((HI.out.2.1.trans HK5.out).trans HKA.out)
        have HTo := Lib.hid (HIH.out i hlt _ _ W6 un uk ⟨HW8.out, (HBase.out W6 HKB.out).1, H.out.lo, H.out.hi, (HBase.out W6 HKB.out).2.1, HJv.out, (HWf.out i hlt).choose_spec, HCnt.out i hlt, big_kid H.out.big hlt⟩)
        have HRow := Lib.hid (HKid.out W6 HKA.out)
        go_upto_region 14 with (fail)
        go_wp2_with (refine wpList_load_row rfl 40 (.tmp 9) rfl N3 rfl 40 (cellJ (gK ks i) un uk).toArray (0, 0) _ HRow.out Tryd.underlying40 rfl HIn.out ?_; simp only [Act.put, List.setIfInBounds_toArray, List.set_cons_succ, List.set_cons_zero])
        refine HTo.out.mono ?_
        rintro e W9 ⟨rfl, hk9, hw9⟩
        have HK9 := Lib.hid (HKB.out.trans hk9)
        obtain ⟨r, hr⟩ : ∃ r, numJ (gK ks i) = r := ⟨_, rfl⟩
        rw [hr] at hw9
        rw [hr]
        cases r with
        | false =>
          have HX := Lib.hid (kdStop (f := f) (k := 6) (t := t) (ns := ns) (w := w) HQ1.out HK9.out hlt hr)
          clear hr hk9 hw9
          go_wp2_with fail
          go_ret
          exact HX.out
        | true =>
          have HX := Lib.hid (kdNext HI.out hlt hr ((HK5.out.trans HKA.out).trans hk9) (hw9 rfl))
          clear hr hk9 hw9
          go_wp2_with fail
          go_roundw
          case rel => exact ⟨i + 1, by omega, by go_num, HX⟩
          case measure => simp [intOf]; omega
    · have hd : decide (i < ks.length) = false := by simpa using hlt
      obtain rfl : i = ks.length := by omega
      have HPut := Lib.hid (put_any B b (f ++ partW 6 ns ks ks.length) [93] wa HI.out.1 (HBase.out wa HI.out.2.1).2.1 (by simp))
      go_wp2_with fail
      refine (put_as HPut.out (by rfl)).mono ?_
      intro e w2 hp
      obtain ⟨rfl, hx⟩ := kdDone (k := 6) (t := t) (by decide) HQ1.out HI.out 93 (by decide) hp
      have HX := Lib.hid hx
      clear hx hp
      go_wp2_with fail
      go_ret
      exact HX.out
set_option maxRecDepth 100000 in
theorem value_kids7 (B b : Nat) (f : Txt) (t : Txt) (ns : List Txt) (ks : List JsonD) (d : Nat) (w0 w : World) (vn vk : Value) (h : ToW B b f (.mk 7 t ns ks) d w0 w vn vk) (IH : KidsW B b ks w0) :
    Calls Tryd.prog 41 #[.pointer (some ⟨b, 0, none⟩), .agg (cellJ (.mk 7 t ns ks) vn vk).toArray] w (ValW B b f (.mk 7 t ns ks) w) := by
  have hcl := cnt_len ks
  have hcn := h.cnt
  rw [cntJ] at hcn
  have hkl : ks.length ≤ 8000 := by omega
  have hkid := h.jv.kidAt
  have hns : NsV w0 vn ns := by have := h.jv; rw [JV] at this; exact this.1
  obtain ⟨A2, c2n, rfl, hc1, hc2, hkd⟩ := hkid
  obtain ⟨A1, c1n, rfl, hn1, hn2, hn3⟩ := hns.at
  have HN3 := Lib.hid hn3
  have HKd := Lib.hid hkd
  have H := Lib.hid h
  have HIH := Lib.hid IH
  have HWf := Lib.hid (fun i (hi : i < ks.length) => wf_kid h.wf hi)
  have HCnt : Hid (∀ i, i < ks.length → cntJ (gK ks i) ≤ 8000) := Lib.hid (fun i hi => by have := cnt_gK hi; omega)
  have HNl : Hid (∀ i, (gL ns i).length ≤ 9223372036854775807) := Lib.hid (fun i => big_name h.big i)
  have HNk : Hid (ns.length = ks.length) := Lib.hid (wf_obj h.wf)
  clear h hn3 hkd hns IH hcl hcn
  go_enter Tryd.func41, Tryd.ntmps41
  go_upto_region 1 with (fail)
  obtain ⟨J, hJ⟩ : ∃ J, w.heap.size = J := ⟨_, rfl⟩
  have e1 := heap_alloc_new w (.cells (cellJ (.mk 7 t ns ks) (.slice A1 ns.length c1n) (.slice A2 ks.length c2n)).toArray 40)
  obtain ⟨W1, hW1⟩ : ∃ W1, w.alloc (.cells (cellJ (.mk 7 t ns ks) (.slice A1 ns.length c1n) (.slice A2 ks.length c2n)).toArray 40) = W1 := ⟨_, rfl⟩
  have q1 : Q w W1 := by rw [← hW1]; exact (Q.refl w).alloc _
  rw [hW1, hJ] at e1
  rw [hW1, hJ]
  have HE1 := Lib.hid e1
  have HQ1 := Lib.hid q1
  have HJ := Lib.hid hJ
  have HWR := Lib.hid (H.out.wr.q q1)
  have HBase : Hid (∀ W, KW B b W1 W → Q w0 W ∧ B ≤ W.heap.size ∧ W.heap[J]? = some (.cells (cellJ (.mk 7 t ns ks) (.slice A1 ns.length c1n) (.slice A2 ks.length c2n)).toArray 40 (0, 0))) := Lib.hid (fun W hk =>
    ⟨((KW.q HQ1.out).trans hk).toQ H.out.q H.out.lo (by have := H.out.lo; have := H.out.hi; omega), by have := H.out.sz; have := HQ1.out.size; have := hk.size; omega, hk.block J _ HE1.out (by have := H.out.hi; have := H.out.sz; have := HJ.out; omega) (.inr fun c fz e => by injection e with _ e _; exact absurd e (by decide))⟩)
  have x0 : W1.cell? ⟨J, 0, none⟩ = some (.int .i64 7) := by rw [cell_of_row _ _ _ _ _ _ HE1.out]; rfl
  have HP0 := Lib.hid (put_any B b f [123] W1 HWR.out (HBase.out W1 (KW.refl _ _ _)).2.1 (by simp))
  clear e1 q1 hJ hW1
  go_wp2_with fail
  refine (put_as HP0.out (by rfl)).mono ?_
  intro e w2 hp
  obtain ⟨rfl, hi0⟩ := kdStart (k := 7) (ns := ns) (ks := ks) 123 (by decide) hp
  have HI0 := Lib.hid hi0
  have x3 : w2.cell? ⟨J, 3, none⟩ = some (.slice A2 ks.length c2n) := by rw [cell_of_row _ _ _ _ _ _ (HBase.out w2 HI0.out.2.1).2.2]; rfl
  clear hp hi0 x0
  go_upto_region 7 with (fail)
  clear x3
  go_loopw [22] (fun i wx => ∃ n : Nat, n ≤ ks.length ∧ i = .int .i64 n ∧ Hid (KdI B b f 7 ns ks W1 n wx)) (fun i _ => ks.length - (intOf i).toNat)
  case atStart => exact ⟨0, Nat.zero_le _, rfl, HI0⟩
  case round =>
    obtain ⟨i, hil, rfl, HI⟩ := hrel
    rename World => wa
    by_cases hlt : i < ks.length
    · have hd : decide (i < ks.length) = true := by simpa using hlt
      obtain ⟨g, off, un, uk, hA⟩ := HKd.out i hlt
      obtain rfl := hA.a
      have HB1 := Lib.hid (HBase.out wa HI.out.2.1)
      have HA := Lib.hid (hA.q HB1.out.1)
      have HJv := Lib.hid hA.jv
      have HRg := Lib.hid HA.out.rg
      have HIn := Lib.hid (info_sz (gK ks i) un uk)
      have HOne := Lib.hid (cellJ_one (j := gK ks i) (jv_slices hA.jv).1 (jv_slices hA.jv).2)
      clear hA
      go_upto_region 8 with (fail)
      iterate 7 go_step
      refine wpList_load_mid rfl 40 (.tmp 25) rfl g (off + i * 4) rfl (cellJ (gK ks i) un uk) _ HRg.out Tryd.underlying40 rfl HIn.out ?_
      simp only [Act.put, List.setIfInBounds_toArray, List.set_cons_succ, List.set_cons_zero]
      go_upto_region 9 with (refine wpList_store_row rfl 40 (.tmp 9) (.tmp 26) rfl wa.heap.size (cellJ (gK ks i) un uk).toArray rfl rfl 40 _ (heap_alloc_new wa _) HIn.out rfl HOne.out ?_)
      simp only [Act.put]
      have HB3 : Hid (((wa.alloc (.cells #[.int .i64 0, .string ⟨#[]⟩, .slice none 0 0, .slice none 0 0] 40)).setRow wa.heap.size (cellJ (gK ks i) un uk).toArray).heap[wa.heap.size]? = some (.cells (cellJ (gK ks i) un uk).toArray 40 (0, 0))) := Lib.hid (setRow_at (heap_alloc_new wa _) _)
      have HQ3 : Hid (Q wa ((wa.alloc (.cells #[.int .i64 0, .string ⟨#[]⟩, .slice none 0 0, .slice none 0 0] 40)).setRow wa.heap.size (cellJ (gK ks i) un uk).toArray)) := Lib.hid (((Q.refl wa).alloc _).setRow (Nat.le_refl _) _)
      obtain ⟨N3, hN3⟩ : ∃ N3, wa.heap.size = N3 := ⟨_, rfl⟩
      obtain ⟨W5, hW5⟩ : ∃ W5, (wa.alloc (.cells #[.int .i64 0, .string ⟨#[]⟩, .slice none 0 0, .slice none 0 0] 40)).setRow N3 (cellJ (gK ks i) un uk).toArray = W5 := ⟨_, rfl⟩
      rw [hN3, hW5] at HB3 HQ3
      rw [hN3, hW5]
      have HNb : Hid (N3 ≠ b) := Lib.hid (by have := H.out.hi; have := HB1.out.2.1; omega)
      clear hN3 hW5
      have HKid : Hid (∀ W, KW B b W5 W → W.heap[N3]? = some (.cells (cellJ (gK ks i) un uk).toArray 40 (0, 0))) := Lib.hid (fun W hk => hk.block N3 _ HB3.out HNb.out (.inr fun c fz e => by injection e with _ e _; exact absurd e (by decide)))
      have HW5 : Hid (WR B b (f ++ partW 7 ns ks i) W5) := Lib.hid (HI.out.1.q HQ3.out)
      have HK5 : Hid (KW B b wa W5) := Lib.hid (KW.q HQ3.out)
      by_cases h0 : i = 0
      · have hz : decide (0 < i) = false := by simp; omega
        have hc0 : (i == 0) = true := by simpa using h0
        have HW6 : Hid (WR B b ((f ++ partW 7 ns ks i) ++ commaJ (i == 0)) W5) := Lib.hid (by rw [hc0]; have := HW5.out; simpa [commaJ] using this)
        have HK6 : Hid (KW B b W5 W5) := Lib.hid (KW.refl _ _ _)
        have x0 : W5.cell? ⟨J, 0, none⟩ = some (.int .i64 7) := by rw [cell_of_row _ _ _ _ _ _ (HBase.out W5 (HI.out.2.1.trans HK5.out)).2.2]; rfl
        clear hc0 h0
        obtain ⟨gn, offn, hA1, hcn⟩ := HN3.out i (by rw [HNk.out]; exact hlt)
        subst hA1
        have hBW := HBase.out W5 ((HI.out.2.1.trans HK5.out).trans HK6.out)
        have y2 : W5.cell? ⟨J, 2, none⟩ = some (.slice (some ⟨gn, offn, none⟩) ns.length c1n) := by rw [cell_of_row _ _ _ _ _ _ hBW.2.2]; rfl
        have yn := hBW.1.cell hcn
        have hdn : decide (i < ns.length) = true := by rw [HNk.out]; simpa using hlt
        have hpn : i < ns.length := by rw [HNk.out]; exact hlt
        have HTx := Lib.hid (qtext_any B b _ (gL ns i) W5 HW6.out hBW.2.1 (HNl.out i))
        clear hBW hcn
        go_wp2_with fail
        refine HTx.out.mono ?_
        rintro e W7 ⟨rfl, hw7, hk7⟩
        have HK7 := Lib.hid hk7
        have HPd := Lib.hid (put_any B b _ [58] W7 hw7 (HBase.out W7 (((HI.out.2.1.trans HK5.out).trans HK6.out).trans hk7)).2.1 (by simp))
        clear hw7 hk7 y2 yn hdn x0 HTx
        go_wp2_with fail
        refine HPd.out.mono ?_
        rintro e W8 ⟨rfl, hw8, hk8⟩
        have HW8 : Hid (WR B b (((f ++ partW 7 ns ks i) ++ commaJ (i == 0)) ++ nameW 7 ns i) W8) := Lib.hid (by have := hw8; simpa [nameW] using this)
        have HK8 : Hid (KW B b W5 W8) := Lib.hid (HK7.out.trans hk8)
        clear hw8 hk8 HPd
        have HKA : Hid (KW B b W5 W8) := Lib.hid (HK6.out.trans HK8.out)
        have HKB : Hid (KW B b W1 W8) := Lib.hid ((HI.out.2.1.trans HK5.out).trans HKA.out)
        have HTo := Lib.hid (HIH.out i hlt _ _ W8 un uk ⟨HW8.out, (HBase.out W8 HKB.out).1, H.out.lo, H.out.hi, (HBase.out W8 HKB.out).2.1, HJv.out, (HWf.out i hlt).choose_spec, HCnt.out i hlt, big_kid H.out.big hlt⟩)
        have HRow := Lib.hid (HKid.out W8 HKA.out)
        go_upto_region 14 with (fail)
        go_wp2_with (refine wpList_load_row rfl 40 (.tmp 9) rfl N3 rfl 40 (cellJ (gK ks i) un uk).toArray (0, 0) _ HRow.out Tryd.underlying40 rfl HIn.out ?_; simp only [Act.put, List.setIfInBounds_toArray, List.set_cons_succ, List.set_cons_zero])
        refine HTo.out.mono ?_
        rintro e W9 ⟨rfl, hk9, hw9⟩
        have HK9 := Lib.hid (HKB.out.trans hk9)
        obtain ⟨r, hr⟩ : ∃ r, numJ (gK ks i) = r := ⟨_, rfl⟩
        rw [hr] at hw9
        rw [hr]
        cases r with
        | false =>
          have HX := Lib.hid (kdStop (f := f) (k := 7) (t := t) (ns := ns) (w := w) HQ1.out HK9.out hlt hr)
          clear hr hk9 hw9
          go_wp2_with fail
          go_ret
          exact HX.out
        | true =>
          have HX := Lib.hid (kdNext HI.out hlt hr ((HK5.out.trans HKA.out).trans hk9) (hw9 rfl))
          clear hr hk9 hw9
          go_wp2_with fail
          go_roundw
          case rel => exact ⟨i + 1, by omega, by go_num, HX⟩
          case measure => simp [intOf]; omega
      · have hz : decide (0 < i) = true := by simp; omega
        have hc0 : (i == 0) = false := by simpa using h0
        have HPc := Lib.hid (put_any B b (f ++ partW 7 ns ks i) [44] W5 HW5.out (HBase.out W5 (HI.out.2.1.trans HK5.out)).2.1 (by simp))
        go_upto_region 10 with (fail)
        go_wp2_with fail
        refine HPc.out.mono ?_
        rintro e W6 ⟨rfl, hw6, hk6⟩
        have HW6 : Hid (WR B b ((f ++ partW 7 ns ks i) ++ commaJ (i == 0)) W6) := Lib.hid (by rw [hc0]; exact hw6)
        have HK6 := Lib.hid hk6
        have x0 : W6.cell? ⟨J, 0, none⟩ = some (.int .i64 7) := by rw [cell_of_row _ _ _ _ _ _ (HBase.out W6 ((HI.out.2.1.trans HK5.out).trans hk6)).2.2]; rfl
        clear hw6 hk6 hc0 hz HPc
        obtain ⟨gn, offn, hA1, hcn⟩ := HN3.out i (by rw [HNk.out]; exact hlt)
        subst hA1
        have hBW := HBase.out W6 ((HI.out.2.1.trans HK5.out).trans HK6.out)
        have y2 : W6.cell? ⟨J, 2, none⟩ = some (.slice (some ⟨gn, offn, none⟩) ns.length c1n) := by rw [cell_of_row _ _ _ _ _ _ hBW.2.2]; rfl
        have yn := hBW.1.cell hcn
        have hdn : decide (i < ns.length) = true := by rw [HNk.out]; simpa using hlt
        have hpn : i < ns.length := by rw [HNk.out]; exact hlt
        have HTx := Lib.hid (qtext_any B b _ (gL ns i) W6 HW6.out hBW.2.1 (HNl.out i))
        clear hBW hcn
        go_wp2_with fail
        refine HTx.out.mono ?_
        rintro e W7 ⟨rfl, hw7, hk7⟩
        have HK7 := Lib.hid hk7
        have HPd := Lib.hid (put_any B b _ [58] W7 hw7 (HBase.out W7 (((HI.out.2.1.trans HK5.out).trans HK6.out).trans hk7)).2.1 (by simp))
        clear hw7 hk7 y2 yn hdn x0 HTx
        go_wp2_with fail
        refine HPd.out.mono ?_
        rintro e W8 ⟨rfl, hw8, hk8⟩
        have HW8 : Hid (WR B b (((f ++ partW 7 ns ks i) ++ commaJ (i == 0)) ++ nameW 7 ns i) W8) := Lib.hid (by have := hw8; simpa [nameW] using this)
        have HK8 : Hid (KW B b W6 W8) := Lib.hid (HK7.out.trans hk8)
        clear hw8 hk8 HPd
        have HKA : Hid (KW B b W5 W8) := Lib.hid (HK6.out.trans HK8.out)
        have HKB : Hid (KW B b W1 W8) := Lib.hid ((HI.out.2.1.trans HK5.out).trans HKA.out)
        have HTo := Lib.hid (HIH.out i hlt _ _ W8 un uk ⟨HW8.out, (HBase.out W8 HKB.out).1, H.out.lo, H.out.hi, (HBase.out W8 HKB.out).2.1, HJv.out, (HWf.out i hlt).choose_spec, HCnt.out i hlt, big_kid H.out.big hlt⟩)
        have HRow := Lib.hid (HKid.out W8 HKA.out)
        go_upto_region 14 with (fail)
        go_wp2_with (refine wpList_load_row rfl 40 (.tmp 9) rfl N3 rfl 40 (cellJ (gK ks i) un uk).toArray (0, 0) _ HRow.out Tryd.underlying40 rfl HIn.out ?_; simp only [Act.put, List.setIfInBounds_toArray, List.set_cons_succ, List.set_cons_zero])
        refine HTo.out.mono ?_
        rintro e W9 ⟨rfl, hk9, hw9⟩
        have HK9 := Lib.hid (HKB.out.trans hk9)
        obtain ⟨r, hr⟩ : ∃ r, numJ (gK ks i) = r := ⟨_, rfl⟩
        rw [hr] at hw9
        rw [hr]
        cases r with
        | false =>
          have HX := Lib.hid (kdStop (f := f) (k := 7) (t := t) (ns := ns) (w := w) HQ1.out HK9.out hlt hr)
          clear hr hk9 hw9
          go_wp2_with fail
          go_ret
          exact HX.out
        | true =>
          have HX := Lib.hid (kdNext HI.out hlt hr ((HK5.out.trans HKA.out).trans hk9) (hw9 rfl))
          clear hr hk9 hw9
          go_wp2_with fail
          go_roundw
          case rel => exact ⟨i + 1, by omega, by go_num, HX⟩
          case measure => simp [intOf]; omega
    · have hd : decide (i < ks.length) = false := by simpa using hlt
      obtain rfl : i = ks.length := by omega
      have HPut := Lib.hid (put_any B b (f ++ partW 7 ns ks ks.length) [125] wa HI.out.1 (HBase.out wa HI.out.2.1).2.1 (by simp))
      go_wp2_with fail
      refine (put_as HPut.out (by rfl)).mono ?_
      intro e w2 hp
      obtain ⟨rfl, hx⟩ := kdDone (k := 7) (t := t) (by decide) HQ1.out HI.out 125 (by decide) hp
      have HX := Lib.hid hx
      clear hx hp
      go_wp2_with fail
      go_ret
      exact HX.out
end Go.Proofs.YtlhhiiemojhjdaaDoor
/- The writer: any right value; Write. -/
set_option linter.unusedVariables false
set_option linter.unusedSimpArgs false
namespace Go.Proofs.YtlhhiiemojhjdaaDoor
open Go Go.RowKit
theorem value_write : ∀ (n : Nat) (j : JsonD), cntJ j ≤ n → ∀ (B b : Nat) (f : Txt) (d : Nat) (w0 w : World) (vn vk : Value), ToW B b f j d w0 w vn vk →
    Calls Tryd.prog 41 #[.pointer (some ⟨b, 0, none⟩), .agg (cellJ j vn vk).toArray] w (ValW B b f j w)
  | 0, j, hn, _, _, _, _, _, _, _, _, _ => absurd hn (by have := cnt_pos j; omega)
  | n + 1, .mk k t ns ks, hn, B, b, f, d, w0, w, vn, vk, h => by
    rw [cntJ] at hn
    have IH : KidsW B b ks w0 := fun i hi f' d' W xn xk hx => value_write n (gK ks i) (gK_sub (by omega) hi) B b f' d' w0 W xn xk hx
    by_cases h6 : k = 6
    · subst h6; exact value_kids6 B b f t ns ks d w0 w vn vk h IH
    · by_cases h7 : k = 7
      · subst h7; exact value_kids7 B b f t ns ks d w0 w vn vk h IH
      · exact value_leaf B b f k t ns ks d w0 w vn vk h ⟨h6, h7⟩
/-- What Write says. -/
def writeR (j : JsonD) : Txt × Int := if rtB j 20 8000 = true ∧ numJ j = true then (if 8000 < (writeJ j).length then ([], 56) else (writeJ j, 0)) else ([], 54)
theorem cut_len {l f : Txt} (h : CutT l f) : 8000 < l.length ↔ 8000 < f.length := by
  rcases h with rfl | ⟨h1, h2⟩
  · exact Iff.rfl
  · omega
theorem cut_all {l f : Txt} (h : CutT l f) (hl : ¬ 8000 < f.length) : l = f := by
  rcases h with h | ⟨_, h⟩
  · exact h
  · exact absurd h hl
theorem isNum_ne {t : Txt} (h : isNumL t = true) : t ≠ [] := fun e => by subst e; revert h; decide
theorem writeJ_ne {j : JsonD} {d : Nat} (h : wfJ j d = true) (hn : numJ j = true) : writeJ j ≠ [] := by
  obtain ⟨k, t, ns, ks⟩ := j
  rw [writeJ]
  rcases wf_kind h with rfl | rfl | rfl | rfl | rfl | rfl | rfl
  · simp
  · simp
  · simp
  · have h4 := wf_leaf h (by decide)
    subst h4
    rw [num_four] at hn
    simpa using isNum_ne hn
  · simp [quoteJ]
  · simp
  · simp
set_option maxRecDepth 100000 in
theorem Write_any (j : JsonD) (w : World) (vn vk : Value) (hj : JV w j vn vk) (hu : UT w) (hb : bigJ 1100000 j) :
    Calls Tryd.prog 20 #[.agg (cellJ j vn vk).toArray] w fun e w' => e = .returned (.tuple #[.string ⟨(writeR j).1.toArray⟩, .int .i64 (writeR j).2]) ∧ Q w w' := by
  have HC1 := Lib.hid (fun W (hq : Q w W) => isRight_any j W vn vk (hj.q hq) (Utf8Tabs_below hu hq) (bigJ_mono (by decide) _ hb))
  have HJv := Lib.hid hj
  have HBig := Lib.hid hb
  obtain ⟨⟨A1, n1, c1n, rfl⟩, A2, n2, c2n, rfl⟩ := jv_slices hj
  have HWrn : Hid (∀ e1 : rtB j 20 8000 = false ∨ numJ j = false, writeR j = ([], 54)) := Lib.hid (fun h => by
    unfold writeR
    rw [if_neg (fun x => by rcases h with h | h <;> (rw [h] at x; simp at x))])
  have HWry : Hid (rtB j 20 8000 = true → numJ j = true → writeR j = if 8000 < (writeJ j).length then ([], 56) else (writeJ j, 0)) := Lib.hid (fun h1 h2 => by
    unfold writeR
    rw [if_pos ⟨h1, h2⟩])
  obtain ⟨k, t, ns, ks⟩ := j
  obtain ⟨R, hR⟩ : ∃ R, writeR (.mk k t ns ks) = R := ⟨_, rfl⟩
  rw [hR] at HWrn HWry
  rw [hR]
  clear hj hu hb hR
  go_enter Tryd.func20, Tryd.ntmps20
  go_upto_region 1 with (fail)
  have e1 := heap_alloc_new w (.cells (cellJ (.mk k t ns ks) (.slice A1 n1 c1n) (.slice A2 n2 c2n)).toArray 40)
  have q1 : Q w (w.alloc (.cells (cellJ (.mk k t ns ks) (.slice A1 n1 c1n) (.slice A2 n2 c2n)).toArray 40)) := (Q.refl w).alloc _
  have s1 : (w.alloc (.cells (cellJ (.mk k t ns ks) (.slice A1 n1 c1n) (.slice A2 n2 c2n)).toArray 40)).heap.size = w.heap.size + 1 := by simp
  obtain ⟨W1, hW1⟩ : ∃ W1, w.alloc (.cells (cellJ (.mk k t ns ks) (.slice A1 n1 c1n) (.slice A2 n2 c2n)).toArray 40) = W1 := ⟨_, rfl⟩
  rw [hW1] at e1 q1 s1
  rw [hW1]
  go_upto_region 2 with (fail)
  have e2 := heap_alloc_new W1 (.cells #[.pointer none, .slice none 0 0] 72)
  have q2 : Q W1 (W1.alloc (.cells #[.pointer none, .slice none 0 0] 72)) := (Q.refl W1).alloc _
  have s2 : (W1.alloc (.cells #[.pointer none, .slice none 0 0] 72)).heap.size = w.heap.size + 2 := by simp [s1]
  rw [s1] at e2
  obtain ⟨W2, hW2⟩ : ∃ W2, W1.alloc (.cells #[.pointer none, .slice none 0 0] 72) = W2 := ⟨_, rfl⟩
  rw [hW2] at e2 q2 s2
  rw [hW2]
  obtain ⟨B, hB⟩ : ∃ B, w.heap.size = B := ⟨_, rfl⟩
  have e1 := q2.block e1
  rw [hB] at e1 e2 s2
  rw [hB]
  have HB := Lib.hid hB
  have HE1 := Lib.hid e1
  have HQ2 := Lib.hid (q1.trans q2)
  have HS2 := Lib.hid s2
  have HWR : Hid (WR (B + 2) (B + 1) [] W2) := Lib.hid ⟨[], ⟨by omega, _, _, e2, .inl rfl, World.ownsRow_nil _ _ _ _⟩, .inl rfl, by simp⟩
  clear e1 e2 q1 q2 s1 s2 hW1 hW2 hB
  have x0 : W2.cell? ⟨B, 0, none⟩ = some (.int .i64 k) := by rw [cell_of_row _ _ _ _ _ _ HE1.out]; rfl
  have x1 : W2.cell? ⟨B, 1, none⟩ = some (.string ⟨t.toArray⟩) := by rw [cell_of_row _ _ _ _ _ _ HE1.out]; rfl
  have x2 : W2.cell? ⟨B, 2, none⟩ = some (.slice A1 n1 c1n) := by rw [cell_of_row _ _ _ _ _ _ HE1.out]; rfl
  have x3 : W2.cell? ⟨B, 3, none⟩ = some (.slice A2 n2 c2n) := by rw [cell_of_row _ _ _ _ _ _ HE1.out]; rfl
  go_wp2_with fail
  refine (HC1.out _ HQ2.out).mono ?_
  rintro e W3 ⟨rfl, hq3⟩
  have HQ3 := Lib.hid hq3
  have x0 := hq3.cell x0
  have x1 := hq3.cell x1
  have x2 := hq3.cell x2
  have x3 := hq3.cell x3
  clear hq3
  obtain ⟨p, hp⟩ : ∃ p, rtB (.mk k t ns ks) 20 8000 = p := ⟨_, rfl⟩
  have HP := Lib.hid hp
  rw [hp]
  clear hp
  cases p with
  | false =>
    have HR := Lib.hid (HWrn.out (.inl HP.out))
    clear x0 x1 x2 x3
    go_wp2_with fail
    go_ret2
    exact ⟨by rw [HR.out]; rfl, HQ2.out.trans HQ3.out⟩
  | true =>
    have hw := rt_wf HP.out
    have HVal := Lib.hid (value_write _ (.mk k t ns ks) (Nat.le_refl _) (B + 2) (B + 1) [] 20 w W3 _ _ ⟨HWR.out.q HQ3.out, HQ2.out.trans HQ3.out, by rw [HB.out]; omega, by omega, by have := HQ3.out.size; have := HS2.out; omega, HJv.out, hw.1, by have := hw.2; omega, HBig.out⟩)
    have HWf := Lib.hid hw.1
    clear hw
    go_wp2_with fail
    refine HVal.out.mono ?_
    rintro e W4 ⟨rfl, hk4, hw4⟩
    have HQ4 : Hid (Q w W4) := Lib.hid (hk4.toQ (HQ2.out.trans HQ3.out) (by rw [HB.out]; omega) (by rw [HB.out]; omega))
    have HSz4 : Hid (B + 2 ≤ W4.heap.size) := Lib.hid (by have := HQ3.out.size; have := HS2.out; have := hk4.size; omega)
    clear x0 x1 x2 x3 hk4 HVal
    obtain ⟨r, hr⟩ : ∃ r, numJ (.mk k t ns ks) = r := ⟨_, rfl⟩
    have HN := Lib.hid hr
    rw [hr] at hw4
    rw [hr]
    clear hr
    cases r with
    | false =>
      have HR := Lib.hid (HWrn.out (.inr HN.out))
      clear hw4
      go_wp2_with fail
      go_ret2
      exact ⟨by rw [HR.out]; rfl, HQ4.out⟩
    | true =>
      have HR := Lib.hid (HWry.out HP.out HN.out)
      obtain ⟨l, hl1, hl2, hl3⟩ := hw4 rfl
      rw [List.nil_append] at hl2
      have HWne := Lib.hid (writeJ_ne HWf.out HN.out)
      have HL := Lib.hid (woLen _ _ l W4 hl1)
      have HO := Lib.hid hl1
      have HCu := Lib.hid hl2
      clear hw4 hl1 hl2
      go_wp2_with fail
      refine HL.out.mono ?_
      rintro e W5 ⟨rfl, hq5⟩
      have HQ5 := Lib.hid hq5
      clear hq5
      by_cases hlen : 8000 < l.length
      · have g1 : decide ((8000 : Int) < (l.length : Int)) = true := by simp; omega
        have HR2 : Hid (R = ([], 56)) := Lib.hid (by rw [HR.out, if_pos ((cut_len HCu.out).1 hlen)])
        go_wp2_with fail
        go_ret2
        exact ⟨by rw [HR2.out]; rfl, HQ4.out.trans HQ5.out⟩
      · have g1 : decide ((8000 : Int) < (l.length : Int)) = false := by simp; omega
        have hnl : ¬ 8000 < (writeJ (.mk k t ns ks)).length := fun h => hlen ((cut_len HCu.out).2 h)
        have hle := cut_all HCu.out hnl
        have HR2 : Hid (R = (l, 0)) := Lib.hid (by rw [HR.out, if_neg hnl, hle])
        have HSt := Lib.hid (woString _ _ l W5 (HO.out.q HQ5.out) (by rw [hle]; exact HWne.out))
        clear hnl hle
        go_wp2_with fail
        refine HSt.out.mono ?_
        rintro e W6 ⟨rfl, hb6⟩
        have HX : Hid (Q w W6) := Lib.hid (Q.below (HQ4.out.trans HQ5.out) (hb6.mono (by rw [HB.out]; omega)))
        clear hb6
        go_wp2_with fail
        go_ret2
        exact ⟨by rw [HR2.out]; rfl, HX.out⟩
end Go.Proofs.YtlhhiiemojhjdaaDoor
/- JSON, plain: the errors' codes; the chapter's examples. -/
set_option linter.unusedVariables false
set_option linter.unusedSimpArgs false
namespace Go.Proofs.YtlhhiiemojhjdaaDoor
open Go Go.RowKit
def badC {α : Type} (p : PR α) : Prop := ∀ e n, p = .bad e n → e = 54 ∨ e = 57
theorem bc_ok {α : Type} (v : α) (r : List UInt8) : badC (PR.ok v r) := fun e n h => by cases h
theorem bc_54 {α : Type} (n : Nat) : badC (PR.bad (α := α) 54 n) := fun e m h => by cases h; exact .inl rfl
theorem bc_57 {α : Type} (n : Nat) : badC (PR.bad (α := α) 57 n) := fun e m h => by cases h; exact .inr rfl
theorem bc_bind {α β : Type} {p : PR α} {k : α → List UInt8 → PR β} (h1 : badC p) (h2 : ∀ v r, badC (k v r)) : badC (p.bind k) := by
  cases p with
  | ok v r => exact h2 v r
  | bad e n => exact fun e' n' h => by cases h; exact h1 e n rfl
theorem bc_if {α : Type} {c : Prop} [Decidable c] {a b : PR α} (h1 : badC a) (h2 : badC b) : badC (if c then a else b) := by
  split
  · exact h1
  · exact h2
theorem bc_take (b : UInt8) (l : List UInt8) : badC (takeR b l) := by
  cases l with
  | nil => exact bc_54 _
  | cons c t => rw [takeR]; exact bc_if (bc_ok _ _) (bc_54 _)
theorem bc_word (w : List UInt8) : ∀ l, badC (wordR w l) := by
  induction w with
  | nil => intro l; exact bc_ok _ _
  | cons b w ih => intro l; rw [wordR]; exact bc_bind (bc_take _ _) (fun _ t => ih t)
theorem bc_dig (l : List UInt8) : badC (digR l) := by unfold digR; exact bc_if (bc_ok _ _) (bc_54 _)
theorem bc_num (l : List UInt8) : badC (numR l) := by
  unfold numR
  refine bc_bind (by unfold intR; exact bc_if (bc_ok _ _) (bc_dig _)) (fun _ l2 => bc_bind (by unfold fracR; exact bc_if (bc_dig _) (bc_ok _ _)) (fun _ l3 => by unfold expR; exact bc_if (bc_dig _) (bc_ok _ _)))
theorem bc_four (f : Nat) : ∀ (k n : Nat) (l : List UInt8), badC (fourR f k n l)
  | 0, n, l => by rw [fourR]; exact bc_ok _ _
  | k + 1, n, [] => by rw [fourR]; exact bc_54 _
  | k + 1, n, b :: t => by
    rw [fourR]
    cases hexJ b with
    | none => exact bc_54 _
    | some v => exact bc_four f k _ t
theorem bc_must (f : Nat) (b : UInt8) (l : List UInt8) : badC (mustR f b l) := by
  cases l with
  | nil => exact bc_54 _
  | cons c t => rw [mustR]; exact bc_if (bc_ok _ _) (bc_54 _)
theorem bc_code (f c : Nat) (l : List UInt8) : badC (codeR f c l) := by
  unfold codeR
  refine bc_if (bc_54 _) (bc_if ?_ (bc_ok _ _))
  refine bc_bind ?_ (fun d t => bc_if (bc_ok _ _) (bc_54 _))
  unfold unitR
  exact bc_bind (bc_must _ _ _) (fun _ t => bc_bind (bc_must _ _ _) (fun _ u => bc_four _ _ _ _))
theorem bc_esc (l : List UInt8) : badC (escR l) := by
  match l with
  | [] => exact bc_54 _
  | [_] => exact bc_54 _
  | a :: b :: t =>
    rw [escR]
    refine bc_if (bc_bind (bc_four _ _ _ _) (fun c u => bc_code _ _ _)) ?_
    cases simpleE b with
    | none => exact bc_54 _
    | some c => exact bc_ok _ _
theorem bc_txt : ∀ (n : Nat) (l acc : List UInt8), badC (txtR n l acc)
  | 0, l, acc => by rw [txtR]; exact bc_54 _
  | n + 1, [], acc => by rw [txtR]; exact bc_54 _
  | n + 1, b :: t, acc => by
    rw [txtR]
    exact bc_if (bc_ok _ _) (bc_if (bc_bind (bc_esc _) (fun c u => bc_txt n _ _)) (bc_if (bc_54 _) (bc_txt n _ _)))
theorem bc_text (l : List UInt8) : badC (textR l) := bc_bind (bc_take _ _) (fun _ t => bc_txt _ _ _)
theorem bc_items {α : Type} {one : List UInt8 → PR α} (h : ∀ l, badC (one l)) (c : UInt8) : ∀ (n : Nat) (l : List UInt8) (acc : List α), badC (itemsR one c n l acc)
  | 0, l, acc => by rw [itemsR]; exact bc_54 _
  | n + 1, l, acc => by
    rw [itemsR]
    exact bc_bind (h l) (fun v r => bc_if (bc_ok _ _) (bc_bind (bc_take _ _) (fun _ u => bc_items h c n _ _)))
theorem bc_row {α : Type} {one : List UInt8 → PR α} (h : ∀ l, badC (one l)) (c : UInt8) (l : List UInt8) : badC (rowR one c l) := by
  unfold rowR; exact bc_if (bc_ok _ _) (bc_items h c _ _ _)
theorem bc_const (w : List UInt8) (k : Int) (l : List UInt8) : badC (constR w k l) := bc_bind (bc_word w l) (fun _ t => bc_ok _ _)
theorem bc_atom (l : List UInt8) : badC (atomR l) := by
  unfold atomR
  exact bc_if (bc_bind (bc_text _) (fun _ _ => bc_ok _ _)) (bc_if (bc_const _ _ _) (bc_if (bc_const _ _ _) (bc_if (bc_const _ _ _) (bc_if (bc_bind (bc_num _) (fun _ _ => bc_ok _ _)) (bc_54 _)))))
theorem bc_val : ∀ (d : Nat) (l : List UInt8), badC (valR d l)
  | 0, l => by rw [valR]; exact bc_if (bc_57 _) (bc_atom l)
  | d + 1, l => by
    rw [valR]
    refine bc_if (bc_bind (bc_row (bc_val d) _ _) (fun _ _ => bc_ok _ _)) (bc_if (bc_bind (bc_row ?_ _ _) (fun _ _ => bc_ok _ _)) (bc_atom l))
    intro l'
    unfold pairR
    exact bc_bind (bc_text _) (fun name r => bc_bind (bc_take _ _) (fun _ u => bc_bind (bc_val d _) (fun v t => bc_ok _ _)))
theorem parse_code {s : Txt} {c a : Nat} (h : parseJ s = .error (c, a)) : c = 54 ∨ c = 56 ∨ c = 57 := by
  unfold parseJ at h
  split at h
  · cases h; exact .inr (.inl rfl)
  · split at h
    · next e n hv =>
      cases h
      rcases bc_val 20 _ _ _ hv with h | h
      · exact .inl h
      · exact .inr (.inr h)
    · split at h
      · cases h
      · cases h; exact .inl rfl
/-! The chapter's examples. -/
def exS : Txt := [123, 34, 97, 34, 58, 32, 91, 49, 44, 32, 34, 120, 34, 44, 32, 110, 117, 108, 108, 93, 125]
def exK : JsonD := .mk 6 [] [] [.mk 4 [49] [] [], .mk 5 [120] [] [], .mk 1 [] [] []]
def exJ : JsonD := .mk 7 [] [[97]] [exK]
theorem ex_parse : parseJ exS = .ok exJ := by kernel_rfl
theorem ex_bad : parseJ [91, 49, 44, 93] = .error (54, 3) := by kernel_rfl
theorem ex_write : writeR exJ = ([123, 34, 97, 34, 58, 91, 49, 44, 34, 120, 34, 44, 110, 117, 108, 108, 93, 125], 0) := by kernel_rfl
theorem ex_find : findJ exJ [97] = (exK, true) := by kernel_rfl
theorem ex_same : sameF exJ exJ = true := by kernel_rfl
end Go.Proofs.YtlhhiiemojhjdaaDoor
/- Law 14: told. -/
set_option linter.unusedVariables false
set_option linter.unusedSimpArgs false
namespace Go.Proofs.YtlhhiiemojhjdaaDoor
open Go Go.RowKit
set_option maxRecDepth 100000 in
theorem told_nil (w : World) : Calls Tryd.prog 23 #[.nilIface] w fun e w' => e = .returned (.tuple #[.int .i64 0, .int .i64 0, .bool true]) ∧ Q w w' := by
  go_enter Tryd.func23, Tryd.ntmps23
  go_wp2_with fail
  refine bodyPost_ret (results_tmp3 rfl _ _ _) rfl ?_
  exact ⟨rfl, Q.refl w⟩
theorem errFault (a : Option Addr) (w : World) : (Instr.typeAssert (.iface 76 (.pointer a)) 32 76 true).run Tryd.prog w = .ok (.tuple #[.pointer a, .bool true]) w := by kernel_rfl
set_option maxRecDepth 100000 in
theorem told_fault (w : World) (bf : Nat) (c a : Int) (h : FaultJ w bf c a) (hc : c ≠ 0) : Calls Tryd.prog 23 #[.iface 76 (.pointer (some ⟨bf, 0, none⟩))] w fun e w' => e = .returned (.tuple #[.int .i64 c, .int .i64 a, .bool true]) ∧ Q w w' := by
  have x0 : w.cell? ⟨bf, 0, none⟩ = some (.int .i64 c) := by rw [cell_of_row _ _ _ _ _ _ h]; rfl
  have x1 : w.cell? ⟨bf, 1, none⟩ = some (.int .i64 a) := by rw [cell_of_row _ _ _ _ _ _ h]; rfl
  have x2 : w.cell? ⟨bf, 2, none⟩ = some .nilIface := by rw [cell_of_row _ _ _ _ _ _ h]; rfl
  have g1 : decide (c = 0) = false := by simpa using hc
  have g2 : (c == 0) = false := by simpa using hc
  clear h
  go_enter Tryd.func23, Tryd.ntmps23
  have mixed : Tryd.prog.follows .mixedOrders = true := by kernel_rfl
  go_wp2_with fail
  rw [errFault]
  simp only [Result.andThen]
  rw [Oper.upon_value]
  go_upto_region 6 with (fail)
  have c0 : w.drew.cell? ⟨bf, 0, none⟩ = some (.int .i64 c) := x0
  have c1 : w.drew.cell? ⟨bf, 1, none⟩ = some (.int .i64 a) := x1
  go_region_o
  all_goals
    go_wp2_with fail
    refine bodyPost_ret (results_tmp3 rfl _ _ _) rfl ?_
    exact ⟨rfl, (Q.refl w).drew⟩
end Go.Proofs.YtlhhiiemojhjdaaDoor
/- Law 14: the chapter's examples. -/
set_option linter.unusedVariables false
set_option linter.unusedSimpArgs false
namespace Go.Proofs.YtlhhiiemojhjdaaDoor
open Go Go.RowKit
/-- A value in a box, and what it leads to. -/
def BoxV (W : World) (b : Nat) (j : JsonD) (vn vk : Value) : Prop := W.heap[b]? = some (.cells (cellJ j vn vk).toArray 40 (0, 0)) ∧ JV W j vn vk
theorem BoxV.q {W W' : World} {b : Nat} {j : JsonD} {vn vk : Value} (h : BoxV W b j vn vk) (hq : Q W W') : BoxV W' b j vn vk := ⟨hq.block h.1, h.2.q hq⟩
theorem ex_big : bigJ 1100000 exJ := by
  unfold exJ exK
  simp [bigJ, bigKs]
/-- A new box. -/
theorem box_new {w : World} {j : JsonD} {vn vk : Value} (h : JV w j vn vk) : ∃ W N, w.heap.size = N ∧ (w.alloc (.cells #[.int .i64 0, .string ⟨#[]⟩, .slice none 0 0, .slice none 0 0] 40)).setRow w.heap.size (cellJ j vn vk).toArray = W ∧ Q w W ∧ BoxV W N j vn vk := by
  have q := ((Q.refl w).alloc (.cells #[.int .i64 0, .string ⟨#[]⟩, .slice none 0 0, .slice none 0 0] 40)).setRow (Nat.le_refl _) (cellJ j vn vk).toArray
  exact ⟨_, _, rfl, rfl, q, setRow_at (heap_alloc_new w _) _, h.q q⟩
theorem jv_one {w : World} {j : JsonD} {vn vk : Value} (h : JV w j vn vk) : (cellJ j vn vk).toArray.all (·.oneCell') = true := cellJ_one (j := j) (jv_slices h).1 (jv_slices h).2
theorem BoxV.load {W : World} {b : Nat} {k : Int} {t : Txt} {ns : List Txt} {ks : List JsonD} {A1 A2 : Option Addr} {n1 c1 n2 c2 : Nat} (h : BoxV W b (.mk k t ns ks) (.slice A1 n1 c1) (.slice A2 n2 c2)) :
    W.cell? ⟨b, 0, none⟩ = some (.int .i64 k) ∧ W.cell? ⟨b, 1, none⟩ = some (.string ⟨t.toArray⟩) ∧ W.cell? ⟨b, 2, none⟩ = some (.slice A1 n1 c1) ∧ W.cell? ⟨b, 3, none⟩ = some (.slice A2 n2 c2) := by
  have h := h.1
  exact ⟨by rw [cell_of_row _ _ _ _ _ _ h]; rfl, by rw [cell_of_row _ _ _ _ _ _ h]; rfl, by rw [cell_of_row _ _ _ _ _ _ h]; rfl, by rw [cell_of_row _ _ _ _ _ _ h]; rfl⟩
set_option maxRecDepth 100000 in
theorem examples14 (w : World) (hu : UT w) : Calls Tryd.prog 19 #[] w fun e w' => e = .returned (.bool true) ∧ Q w w' := by
  have HU := Lib.hid hu
  have HPa := Lib.hid (parse_any exS w hu)
  clear hu
  go_enter Tryd.func19, Tryd.ntmps19
  go_wp2_with fail
  refine HPa.out.mono ?_
  rintro e w1 ⟨hq1, hp⟩
  rw [ex_parse] at hp
  obtain ⟨vn, vk, rfl, hj⟩ := hp
  have hjv := hj.read
  obtain ⟨⟨A1, n1, c1n, rfl⟩, A2, n2, c2n, rfl⟩ := jv_slices hjv
  have HJ1 := Lib.hid hjv
  have HQ1 := Lib.hid hq1
  clear hj hjv hq1
  have HIn1 := Lib.hid (info_sz exJ (.slice A1 n1 c1n) (.slice A2 n2 c2n))
  have HOne1 := Lib.hid (jv_one HJ1.out)
  go_upto_region 2 with (refine wpList_store_row rfl 40 (.tmp 1) (.tmp 14) rfl w1.heap.size (cellJ exJ (.slice A1 n1 c1n) (.slice A2 n2 c2n)).toArray rfl rfl 40 _ (heap_alloc_new w1 _) HIn1.out rfl HOne1.out ?_)
  obtain ⟨W2, N1, hN1, hW2, hq2, hb2⟩ := box_new HJ1.out
  rw [hN1] at hW2
  simp only [Act.put, hN1, hW2]
  have HB2 := Lib.hid hb2
  have HQ2 := Lib.hid (HQ1.out.trans hq2)
  have HPb := Lib.hid (parse_any [91, 49, 44, 93] W2 (Utf8Tabs_below HU.out (HQ1.out.trans hq2)))
  clear hN1 hW2 hq2 hb2 HPa
  go_wp2_with fail
  refine HPb.out.mono ?_
  rintro e w3 ⟨hq3, hp⟩
  rw [ex_bad] at hp
  obtain ⟨bf, rfl, hf⟩ := hp
  have HF3 := Lib.hid hf
  have HQ3 := Lib.hid (HQ2.out.trans hq3)
  have HB3 := Lib.hid (HB2.out.q hq3)
  have HZ := Lib.hid (jo_nil (w := w3) (k := 0) (t := []) (Nat.le_refl 0)).read
  have HIn0 := Lib.hid (info_sz zeroJ (.slice none 0 0) (.slice none 0 0))
  have HOne0 := Lib.hid (cellJ_one (j := zeroJ) ⟨none, 0, 0, rfl⟩ ⟨none, 0, 0, rfl⟩)
  clear hf hq3 HPb
  go_upto_region 3 with (refine wpList_store_row rfl 40 (.tmp 3) (.tmp 18) rfl w3.heap.size zeroC.toArray rfl rfl 40 _ (heap_alloc_new w3 _) HIn0.out rfl HOne0.out ?_)
  obtain ⟨W4, N2, hN2, hW4, hq4, hb4⟩ := box_new (j := zeroJ) (vn := .slice none 0 0) (vk := .slice none 0 0) HZ.out
  have hW4' : (w3.alloc (.cells #[.int .i64 0, .string ⟨#[]⟩, .slice none 0 0, .slice none 0 0] 40)).setRow w3.heap.size zeroC.toArray = W4 := hW4
  rw [hN2] at hW4'
  simp only [Act.put, hN2, hW4']
  have HB4 := Lib.hid (HB3.out.q hq4)
  have HQ4 := Lib.hid (HQ3.out.trans hq4)
  have HTo := Lib.hid (told_fault W4 bf 54 3 (HF3.out.q hq4) (by decide))
  clear hN2 hW4 hW4' hq4 hb4
  go_wp2_with fail
  refine HTo.out.mono ?_
  rintro e w5 ⟨rfl, hq5⟩
  have HQ5 := Lib.hid (HQ4.out.trans hq5)
  have HB5 := Lib.hid (HB4.out.q hq5)
  have hWr := Write_any exJ w5 _ _ HB5.out.2 (Utf8Tabs_below HU.out HQ5.out) ex_big
  rw [ex_write] at hWr
  have HWr := Lib.hid hWr
  obtain ⟨x0, x1, x2, x3⟩ := HB5.out.load
  clear hq5 hWr HTo
  go_upto_region 4 with (fail)
  go_wp2_with fail
  refine HWr.out.mono ?_
  rintro e w6 ⟨rfl, hq6⟩
  have HQ6 := Lib.hid (HQ5.out.trans hq6)
  have HB6 := Lib.hid (HB5.out.q hq6)
  have hFi := Find_any exJ [97] w6 _ _ HB6.out.2 (Utf8Tabs_below HU.out HQ6.out) (bigJ_mono (by decide) _ ex_big)
  have HFi := Lib.hid hFi
  clear x0 x1 x2 x3 hq6 hFi HWr
  obtain ⟨x0, x1, x2, x3⟩ := HB6.out.load
  go_wp2_with fail
  refine HFi.out.mono ?_
  rintro e w7 ⟨un, uk, rfl, hj7, hq7⟩
  rw [ex_find] at hj7
  rw [ex_find]
  have hjv7 := hj7.read
  have HQ7 := Lib.hid (HQ6.out.trans hq7)
  have HB7 := Lib.hid (HB6.out.q hq7)
  obtain ⟨⟨A3, n3, c3n, rfl⟩, A4, n4, c4n, rfl⟩ := jv_slices hjv7
  have HJ7 := Lib.hid hjv7
  have HIn7 := Lib.hid (info_sz exK (.slice A3 n3 c3n) (.slice A4 n4 c4n))
  have HOne7 := Lib.hid (jv_one hjv7)
  clear x0 x1 x2 x3 hq7 hj7 hjv7 HFi
  go_upto_region 6 with (refine wpList_store_row rfl 40 (.tmp 10) (.tmp 34) rfl w7.heap.size (cellJ exK (.slice A3 n3 c3n) (.slice A4 n4 c4n)).toArray rfl rfl 40 _ (heap_alloc_new w7 _) HIn7.out rfl HOne7.out ?_)
  obtain ⟨W8, N3, hN3, hW8, hq8, hb8⟩ := box_new HJ7.out
  rw [hN3] at hW8
  simp only [Act.put, hN3, hW8]
  have HB8 := Lib.hid (HB7.out.q hq8)
  have HK8 := Lib.hid hb8
  have HQ8 := Lib.hid (HQ7.out.trans hq8)
  have hSa := Same_any exJ exJ W8 _ _ _ _ HB8.out.2 HB8.out.2 (Utf8Tabs_below HU.out HQ8.out) (bigJ_mono (by decide) _ ex_big) (bigJ_mono (by decide) _ ex_big)
  rw [ex_same] at hSa
  have HSa := Lib.hid hSa
  clear hN3 hW8 hq8 hb8 hSa
  obtain ⟨x0, x1, x2, x3⟩ := HB8.out.load
  obtain ⟨y0, y1, y2, y3⟩ := HK8.out.load
  obtain ⟨A, c, e, hc1, hc2, hk⟩ := HB8.out.2.kidAt
  injection e with e1 e2 e3
  subst e1 e2 e3
  obtain ⟨g, off, u1, u2, hA⟩ := hk 0 (by decide)
  obtain rfl := hA.a
  have hjk : JV W8 exK u1 u2 := hA.jv
  obtain ⟨A5, c5, e5, hc3, hc4, _⟩ := hjk.kidAt
  have hcell := hA.rg 3 u2 rfl
  rw [e5] at hcell
  have z3 : W8.cell? ⟨g, off + 3, none⟩ = some (.slice A5 3 c5) := by simpa using hcell
  have x3 : W8.cell? ⟨N1, 3, none⟩ = some (.slice (some ⟨g, off, none⟩) 1 c2n) := x3
  clear hk hA hjk hcell e5 hc1 hc2 hc3 hc4 HJ1 HIn1 HOne1 HB2 HB3 HB4 HB5 HB6 HB7 HB8 HK8 HJ7 HIn7 HOne7
  go_wp2_with fail
  refine HSa.out.mono ?_
  rintro e w9 ⟨rfl, hq9⟩
  have HX := Lib.hid (HQ8.out.trans hq9)
  clear hq9 x0 x1 x2 x3 y0 y1 y2 y3 z3
  go_wp2_with fail
  go_ret
  exact ⟨rfl, HX.out⟩
end Go.Proofs.YtlhhiiemojhjdaaDoor
