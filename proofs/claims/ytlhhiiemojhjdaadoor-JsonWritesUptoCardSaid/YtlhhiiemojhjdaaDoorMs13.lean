/- Texts of this proof, laid into one: KeC, KeD, KeF, KeG, LaA, LaB, LaC, LaD, LaE, LaF. -/
import Derived.Test.YtlhhiiemojhjdaaDoorMs12
set_option linter.unusedVariables false
set_option linter.unusedSimpArgs false
namespace Go.Proofs.YtlhhiiemojhjdaaDoor
open Go Go.RowKit
def BoxV (W : World) (b : Nat) (j : JsonD) (vn vk : Value) : Prop := W.heap[b]? = some (.cells (cellJ j vn vk).toArray 40 (0, 0)) ∧ JV W j vn vk
theorem BoxV.q {W W' : World} {b : Nat} {j : JsonD} {vn vk : Value} (h : BoxV W b j vn vk) (hq : Q W W') : BoxV W' b j vn vk := ⟨hq.block h.1, h.2.q hq⟩
theorem ex_big : bigJ 1100000 exJ := by
  unfold exJ exK
  simp [bigJ, bigKs]
theorem box_new {w : World} {j : JsonD} {vn vk : Value} (h : JV w j vn vk) : ∃ W N, w.heap.size = N ∧ (w.alloc (.cells #[.int .i64 0, .string ⟨#[]⟩, .slice none 0 0, .slice none 0 0] 40)).setRow w.heap.size (cellJ j vn vk).toArray = W ∧ Q w W ∧ BoxV W N j vn vk := by
  have q := ((Q.refl w).alloc (.cells #[.int .i64 0, .string ⟨#[]⟩, .slice none 0 0, .slice none 0 0] 40)).setRow (Nat.le_refl _) (cellJ j vn vk).toArray
  exact ⟨_, _, rfl, rfl, q, setRow_at (heap_alloc_new w _) _, h.q q⟩
theorem jv_one {w : World} {j : JsonD} {vn vk : Value} (h : JV w j vn vk) : (cellJ j vn vk).toArray.all (·.oneCell') = true := cellJ_one (j := j) (jv_slices h).1 (jv_slices h).2
theorem BoxV.load {W : World} {b : Nat} {k : Int} {t : Txt} {ns : List Txt} {ks : List JsonD} {A1 A2 : Option Addr} {n1 c1 n2 c2 : Nat} (h : BoxV W b (.mk k t ns ks) (.slice A1 n1 c1) (.slice A2 n2 c2)) :
    W.cell? ⟨b, 0, none⟩ = some (.int .i64 k) ∧ W.cell? ⟨b, 1, none⟩ = some (.string ⟨t.toArray⟩) ∧ W.cell? ⟨b, 2, none⟩ = some (.slice A1 n1 c1) ∧ W.cell? ⟨b, 3, none⟩ = some (.slice A2 n2 c2) := by
  have h := h.1
  exact ⟨by rw [cell_of_row _ _ _ _ _ _ h]; rfl, by rw [cell_of_row _ _ _ _ _ _ h]; rfl, by rw [cell_of_row _ _ _ _ _ _ h]; rfl, by rw [cell_of_row _ _ _ _ _ _ h]; rfl⟩
set_option maxRecDepth 100000 in
theorem examples14 (w : World) (hu : UT w) : Calls Tryd.prog 19 #[] w fun e w' => e = .returned (.bool true) ∧ Q w w' := by
  have HU := Lib.hid hu
  have HPa := Lib.hid (parse_any exS w hu)
  clear hu
  go_enter Tryd.func19, Tryd.ntmps19
  go_wp2_with fail
  refine HPa.out.mono ?_
  rintro e w1 ⟨hq1, hp⟩
  rw [ex_parse] at hp
  obtain ⟨vn, vk, rfl, hj⟩ := hp
  have hjv := hj.read
  obtain ⟨⟨A1, n1, c1n, rfl⟩, A2, n2, c2n, rfl⟩ := jv_slices hjv
  have HJ1 := Lib.hid hjv
  have HQ1 := Lib.hid hq1
  clear hj hjv hq1
  have HIn1 := Lib.hid (info_sz exJ (.slice A1 n1 c1n) (.slice A2 n2 c2n))
  have HOne1 := Lib.hid (jv_one HJ1.out)
  go_upto_region 2 with (refine wpList_store_row rfl 40 (.tmp 1) (.tmp 14) rfl w1.heap.size (cellJ exJ (.slice A1 n1 c1n) (.slice A2 n2 c2n)).toArray rfl rfl 40 _ (heap_alloc_new w1 _) HIn1.out rfl HOne1.out ?_)
  obtain ⟨W2, N1, hN1, hW2, hq2, hb2⟩ := box_new HJ1.out
  rw [hN1] at hW2
  simp only [Act.put, hN1, hW2]
  have HB2 := Lib.hid hb2
  have HQ2 := Lib.hid (HQ1.out.trans hq2)
  have HPb := Lib.hid (parse_any [91, 49, 44, 93] W2 (Utf8Tabs_below HU.out (HQ1.out.trans hq2)))
  clear hN1 hW2 hq2 hb2 HPa
  go_wp2_with fail
  refine HPb.out.mono ?_
  rintro e w3 ⟨hq3, hp⟩
  rw [ex_bad] at hp
  obtain ⟨bf, rfl, hf⟩ := hp
  have HF3 := Lib.hid hf
  have HQ3 := Lib.hid (HQ2.out.trans hq3)
  have HB3 := Lib.hid (HB2.out.q hq3)
  have HZ := Lib.hid (jo_nil (w := w3) (k := 0) (t := []) (Nat.le_refl 0)).read
  have HIn0 := Lib.hid (info_sz zeroJ (.slice none 0 0) (.slice none 0 0))
  have HOne0 := Lib.hid (cellJ_one (j := zeroJ) ⟨none, 0, 0, rfl⟩ ⟨none, 0, 0, rfl⟩)
  clear hf hq3 HPb
  go_upto_region 3 with (refine wpList_store_row rfl 40 (.tmp 3) (.tmp 18) rfl w3.heap.size zeroC.toArray rfl rfl 40 _ (heap_alloc_new w3 _) HIn0.out rfl HOne0.out ?_)
  obtain ⟨W4, N2, hN2, hW4, hq4, hb4⟩ := box_new (j := zeroJ) (vn := .slice none 0 0) (vk := .slice none 0 0) HZ.out
  have hW4' : (w3.alloc (.cells #[.int .i64 0, .string ⟨#[]⟩, .slice none 0 0, .slice none 0 0] 40)).setRow w3.heap.size zeroC.toArray = W4 := hW4
  rw [hN2] at hW4'
  simp only [Act.put, hN2, hW4']
  have HB4 := Lib.hid (HB3.out.q hq4)
  have HQ4 := Lib.hid (HQ3.out.trans hq4)
  have HTo := Lib.hid (told_fault W4 bf 54 3 (HF3.out.q hq4) (by decide))
  clear hN2 hW4 hW4' hq4 hb4
  go_wp2_with fail
  refine HTo.out.mono ?_
  rintro e w5 ⟨rfl, hq5⟩
  have HQ5 := Lib.hid (HQ4.out.trans hq5)
  have HB5 := Lib.hid (HB4.out.q hq5)
  have hWr := Write_any exJ w5 _ _ HB5.out.2 (Utf8Tabs_below HU.out HQ5.out) ex_big
  rw [ex_write] at hWr
  have HWr := Lib.hid hWr
  obtain ⟨x0, x1, x2, x3⟩ := HB5.out.load
  clear hq5 hWr HTo
  go_upto_region 4 with (fail)
  go_wp2_with fail
  refine HWr.out.mono ?_
  rintro e w6 ⟨rfl, hq6⟩
  have HQ6 := Lib.hid (HQ5.out.trans hq6)
  have HB6 := Lib.hid (HB5.out.q hq6)
  have hFi := Find_any exJ [97] w6 _ _ HB6.out.2 (Utf8Tabs_below HU.out HQ6.out) (bigJ_mono (by decide) _ ex_big)
  have HFi := Lib.hid hFi
  clear x0 x1 x2 x3 hq6 hFi HWr
  obtain ⟨x0, x1, x2, x3⟩ := HB6.out.load
  go_wp2_with fail
  refine HFi.out.mono ?_
  rintro e w7 ⟨un, uk, rfl, hj7, hq7⟩
  rw [ex_find] at hj7
  rw [ex_find]
  have hjv7 := hj7.read
  have HQ7 := Lib.hid (HQ6.out.trans hq7)
  have HB7 := Lib.hid (HB6.out.q hq7)
  obtain ⟨⟨A3, n3, c3n, rfl⟩, A4, n4, c4n, rfl⟩ := jv_slices hjv7
  have HJ7 := Lib.hid hjv7
  have HIn7 := Lib.hid (info_sz exK (.slice A3 n3 c3n) (.slice A4 n4 c4n))
  have HOne7 := Lib.hid (jv_one hjv7)
  clear x0 x1 x2 x3 hq7 hj7 hjv7 HFi
  go_upto_region 6 with (refine wpList_store_row rfl 40 (.tmp 10) (.tmp 34) rfl w7.heap.size (cellJ exK (.slice A3 n3 c3n) (.slice A4 n4 c4n)).toArray rfl rfl 40 _ (heap_alloc_new w7 _) HIn7.out rfl HOne7.out ?_)
  obtain ⟨W8, N3, hN3, hW8, hq8, hb8⟩ := box_new HJ7.out
  rw [hN3] at hW8
  simp only [Act.put, hN3, hW8]
  have HB8 := Lib.hid (HB7.out.q hq8)
  have HK8 := Lib.hid hb8
  have HQ8 := Lib.hid (HQ7.out.trans hq8)
  have hSa := Same_any exJ exJ W8 _ _ _ _ HB8.out.2 HB8.out.2 (Utf8Tabs_below HU.out HQ8.out) (bigJ_mono (by decide) _ ex_big) (bigJ_mono (by decide) _ ex_big)
  rw [ex_same] at hSa
  have HSa := Lib.hid hSa
  clear hN3 hW8 hq8 hb8 hSa
  obtain ⟨x0, x1, x2, x3⟩ := HB8.out.load
  obtain ⟨y0, y1, y2, y3⟩ := HK8.out.load
  obtain ⟨A, c, e, hc1, hc2, hk⟩ := HB8.out.2.kidAt
  injection e with e1 e2 e3
  subst e1 e2 e3
  obtain ⟨g, off, u1, u2, hA⟩ := hk 0 (by decide)
  obtain rfl := hA.a
  have hjk : JV W8 exK u1 u2 := hA.jv
  obtain ⟨A5, c5, e5, hc3, hc4, _⟩ := hjk.kidAt
  have hcell := hA.rg 3 u2 rfl
  rw [e5] at hcell
  have z3 : W8.cell? ⟨g, off + 3, none⟩ = some (.slice A5 3 c5) := by simpa using hcell
  have x3 : W8.cell? ⟨N1, 3, none⟩ = some (.slice (some ⟨g, off, none⟩) 1 c2n) := x3
  clear hk hA hjk hcell e5 hc1 hc2 hc3 hc4 HJ1 HIn1 HOne1 HB2 HB3 HB4 HB5 HB6 HB7 HB8 HK8 HJ7 HIn7 HOne7
  go_wp2_with fail
  refine HSa.out.mono ?_
  rintro e w9 ⟨rfl, hq9⟩
  have HX := Lib.hid (HQ8.out.trans hq9)
  clear hq9 x0 x1 x2 x3 y0 y1 y2 y3 z3
  go_wp2_with fail
  go_ret
  exact ⟨rfl, HX.out⟩
end Go.Proofs.YtlhhiiemojhjdaaDoor
set_option linter.unusedVariables false
set_option linter.unusedSimpArgs false
namespace Go.Proofs.YtlhhiiemojhjdaaDoor
open Go Go.RowKit
end Go.Proofs.YtlhhiiemojhjdaaDoor
set_option linter.unusedVariables false
set_option linter.unusedSimpArgs false
namespace Go.Proofs.YtlhhiiemojhjdaaDoor
open Go Go.RowKit
def ErrV (s : Txt) (W : World) (ev : Value) : Prop := match parseJ s with
  | .ok _ => ev = .nilIface
  | .error ca => ∃ bf, ev = .iface 76 (.pointer (some ⟨bf, 0, none⟩)) ∧ FaultJ W bf ca.1 (ca.2 : Nat)
theorem ErrV.q {s : Txt} {W W' : World} {ev : Value} (h : ErrV s W ev) (hq : Q W W') : ErrV s W' ev := by
  unfold ErrV at h ⊢
  cases hp : parseJ s with
  | ok v => rw [hp] at h; exact h
  | error ca =>
    rw [hp] at h
    obtain ⟨bf, e, hf⟩ := h
    exact ⟨bf, e, hf.q hq⟩
def blk : Nat → Txt
  | 0 => []
  | i + 1 => blk i ++ sub [32, 9, 10, 13] (i % 4) (i % 4 + 1)
end Go.Proofs.YtlhhiiemojhjdaaDoor
set_option linter.unusedVariables false
set_option linter.unusedSimpArgs false
namespace Go.Proofs.YtlhhiiemojhjdaaDoor
open Go Go.RowKit
end Go.Proofs.YtlhhiiemojhjdaaDoor
set_option linter.unusedVariables false
set_option linter.unusedSimpArgs false
namespace Go.Proofs.YtlhhiiemojhjdaaDoor
open Go Go.RowKit
def ScB (w : World) (b : Nat) (s : Txt) (p : Nat) (c a : Int) : Prop := w.heap[b]? = some (.cells #[.string ⟨s.toArray⟩, .int .i64 (p : Int), .int .i64 c, .int .i64 a] 89 (0, 0))
theorem ScB.q {w w' : World} {b : Nat} {s : Txt} {p : Nat} {c a : Int} (h : ScB w b s p c a) (hq : Q w w') : ScB w' b s p c a := hq.block h
theorem ScB.c {w : World} {b : Nat} {s : Txt} {p : Nat} {c a : Int} (h : ScB w b s p c a) : w.cell? ⟨b, 0, none⟩ = some (.string ⟨s.toArray⟩) ∧ w.cell? ⟨b, 1, none⟩ = some (.int .i64 (p : Int)) ∧ w.cell? ⟨b, 2, none⟩ = some (.int .i64 c) ∧ w.cell? ⟨b, 3, none⟩ = some (.int .i64 a) :=
  ⟨by rw [cell_of_row _ _ _ _ _ _ h]; rfl, by rw [cell_of_row _ _ _ _ _ _ h]; rfl, by rw [cell_of_row _ _ _ _ _ _ h]; rfl, by rw [cell_of_row _ _ _ _ _ _ h]; rfl⟩
theorem ScB.f {w : World} {b : Nat} {s : Txt} {p : Nat} {c a : Int} (h : ScB w b s p c a) (i : Nat) : w.frozen? ⟨b, i, none⟩ = false := frozen_of_row w b i _ _ h
def keepE (c a c' a' : Int) : Int × Int := if c = 0 then (c', a') else (c, a)
theorem no_any (b : Nat) (s : Txt) (p : Nat) (c a c' a' : Int) (w : World) (h : ScB w b s p c a) :
    Calls Tryd.prog 54 #[.pointer (some ⟨b, 0, none⟩), .int .i64 c', .int .i64 a'] w fun e w' => e = .returned (.tuple #[]) ∧ ScB w' b s p (keepE c a c' a').1 (keepE c a c' a').2 ∧ GX [b] w w' := by
  obtain ⟨x0, x1, x2, x3⟩ := h.c
  have f2 := h.f 2
  have f3 := h.f 3
  have H := Lib.hid h
  clear h
  by_cases hc : c = 0
  · subst hc
    have HX : Hid (ScB ((w.setCell ⟨b, 2, none⟩ (.int .i64 c')).setCell ⟨b, 3, none⟩ (.int .i64 a')) b s p (keepE 0 a c' a').1 (keepE 0 a c' a').2 ∧ GX [b] w ((w.setCell ⟨b, 2, none⟩ (.int .i64 c')).setCell ⟨b, 3, none⟩ (.int .i64 a'))) := Lib.hid ⟨by
      unfold ScB
      rw [heap_setCell_any _ b 3 _ _ _ _ (heap_setCell_any _ b 2 _ _ _ _ H.out)]; rfl, ((GX.refl [b] w).set (by simp) _ _).set (by simp) _ _⟩
    go_enter Tryd.func54, Tryd.ntmps54
    go_wp2_with fail
    go_end0
    exact ⟨rfl, HX.out⟩
  · have g1 : decide (c = 0) = false := by simpa using hc
    have HX : Hid (ScB w b s p (keepE c a c' a').1 (keepE c a c' a').2) := Lib.hid (by unfold keepE; rw [if_neg hc]; exact H.out)
    go_enter Tryd.func54, Tryd.ntmps54
    go_wp2_with fail
    go_end0
    exact ⟨rfl, HX.out, GX.refl _ _⟩
theorem u8_eq (v x : UInt8) : ((v.toNat : Int) == (x.toNat : Int)) = (v == x) := by
  by_cases h : v = x
  · subst h; simp
  · have h1 : ¬ ((v.toNat : Int) = (x.toNat : Int)) := fun e => h (UInt8.toNat_inj.1 (by omega))
    have e1 : ((v.toNat : Int) == (x.toNat : Int)) = false := by simpa using h1
    have e2 : (v == x) = false := by simpa using h
    rw [e1, e2]
def isB (s : Txt) (p : Nat) (c : UInt8) : Bool := decide (p < s.length) && (gB s p == c)
set_option maxRecDepth 100000 in
theorem is_any (b : Nat) (s : Txt) (p : Nat) (c a : Int) (x : UInt8) (w : World) (h : ScB w b s p c a) :
    Calls Tryd.prog 107 #[.pointer (some ⟨b, 0, none⟩), .int .u8 x.toNat] w fun e w' => e = .returned (.bool (isB s p x)) ∧ Q w w' := by
  obtain ⟨x0, x1, _, _⟩ := h.c
  have k0 : ∀ m : QW w, m.val.cell? ⟨b, 0, none⟩ = some (.string ⟨s.toArray⟩) := fun m => m.cell x0
  have k1 : ∀ m : QW w, m.val.cell? ⟨b, 1, none⟩ = some (.int .i64 (p : Int)) := fun m => m.cell x1
  clear h x0 x1
  by_cases hlt : p < s.length
  · have hd : decide (p < s.length) = true := by simpa using hlt
    obtain ⟨v, hv⟩ : ∃ v, gB s p = v := ⟨_, rfl⟩
    have HX : Hid (isB s p x = (v == x)) := Lib.hid (by unfold isB; rw [hd, hv]; rfl)
    go_enter Tryd.func107, Tryd.ntmps107
    go_upto_region 1 with (fail)
    refine wp_region_q (by kernel_rfl) (by kernel_rfl) ?_
    (repeat (go_big_quiet_step (fail)))
    refine wpQuiet_nil ?_
    rintro wb ⟨mb, hmb⟩
    have HQ : Hid (Q w wb) := Lib.hid (by rw [hmb]; exact mb.le)
    clear k0 k1 hmb hv
    go_wp2_with fail
    go_ret
    exact ⟨by rw [HX.out]; rw [← u8_eq]; rfl, HQ.out⟩
  · have hd : decide (p < s.length) = false := by simpa using hlt
    have HX : Hid (isB s p x = false) := Lib.hid (by unfold isB; rw [hd]; rfl)
    go_enter Tryd.func107, Tryd.ntmps107
    go_upto_region 1 with (fail)
    refine wp_region_q (by kernel_rfl) (by kernel_rfl) ?_
    (repeat (go_big_quiet_step (fail)))
    refine wpQuiet_nil ?_
    rintro wb ⟨mb, hmb⟩
    have HQ : Hid (Q w wb) := Lib.hid (by rw [hmb]; exact mb.le)
    clear k0 k1 hmb
    go_wp2_with fail
    go_ret
    exact ⟨by rw [HX.out]; rfl, HQ.out⟩
end Go.Proofs.YtlhhiiemojhjdaaDoor
set_option linter.unusedVariables false
set_option linter.unusedSimpArgs false
namespace Go.Proofs.YtlhhiiemojhjdaaDoor
open Go Go.RowKit
theorem ScB.set {w : World} {b : Nat} {s : Txt} {p : Nat} {c a : Int} (h : ScB w b s p c a) (q : Nat) : ScB (w.setCell ⟨b, 1, none⟩ (.int .i64 (q : Int))) b s q c a := by
  unfold ScB
  rw [heap_setCell_any _ b 1 _ _ _ _ h]; simp
end Go.Proofs.YtlhhiiemojhjdaaDoor
set_option linter.unusedVariables false
set_option linter.unusedSimpArgs false
namespace Go.Proofs.YtlhhiiemojhjdaaDoor
open Go Go.RowKit
def UnR (b : Nat) (s : Txt) (a : Int) (r : PR Unit) (w w' : World) : Prop := GX [b] w w' ∧
  match r with
  | .ok _ t => ∃ q, q ≤ s.length ∧ s.drop q = t ∧ ScB w' b s q 0 a
  | .bad c n => ∃ q, q ≤ s.length ∧ (c ≠ 0 ∧ s.length - n ≤ q) ∧ ScB w' b s q (c : Int) ((s.length - n : Nat) : Int)
def UnP (b : Nat) (s : Txt) (a : Int) (r : PR Unit) (w : World) (e : Ending) (w' : World) : Prop := e = .returned (.tuple #[]) ∧ UnR b s a r w w'
theorem is_iff (s : Txt) (p : Nat) (x : UInt8) : isB s p x = true ↔ p < s.length ∧ gB s p = x := by
  unfold isB; simp
theorem is_hd {s : Txt} {p : Nat} {x : UInt8} (hx : x ≠ 0) : isB s p x = decide (hdB (s.drop p) = x) := by
  by_cases h1 : p < s.length
  · rw [hd_drop h1]; unfold isB
    by_cases hh : gB s p = x <;> simp [h1, hh]
  · rw [hd_drop_end (by omega)]; unfold isB; simp [h1, hx.symm]
set_option maxRecDepth 100000 in
set_option maxHeartbeats 4000000 in
theorem rdigits_any (b : Nat) (s : Txt) (p : Nat) (a : Int) (w : World) (h : ScB w b s p 0 a) (hp : p ≤ s.length) (hl : s.length ≤ 1000000000) :
    Calls Tryd.prog 111 #[.pointer (some ⟨b, 0, none⟩)] w (UnP b s a (digR (s.drop p)) w) := by
  obtain ⟨r, hr⟩ : ∃ r, digR (s.drop p) = r := ⟨_, rfl⟩
  have HR := Lib.hid hr
  rw [hr]
  have H := Lib.hid h
  obtain ⟨-, x1, -, -⟩ := h.c
  clear h hr
  go_enter Tryd.func111, Tryd.ntmps111
  go_wp2_with fail
  clear x1
  go_loopg [] (s.length - p + 1) (fun gk wx => ∃ q : Nat, s.length - q < gk ∧ p ≤ q ∧ q ≤ s.length ∧ Hid (tenAt s q = tenAt s p ∧ (p < q → tenJ (hdB (s.drop p)) = true) ∧ ScB wx b s q 0 a ∧ GX [b] w wx))
  case atStart => exact ⟨p, by omega, Nat.le_refl _, hp, Lib.hid ⟨rfl, fun h => absurd h (Nat.lt_irrefl _), H.out, GX.refl _ _⟩⟩
  case round =>
    obtain ⟨q, hg, hpq, hql, HI⟩ := hrel
    rename World => wa
    obtain ⟨g', rfl⟩ : ∃ g', gk = g' + 1 := ⟨gk - 1, by omega⟩
    obtain ⟨x0, x1, _, _⟩ := HI.out.2.2.1.c
    have k0 : ∀ m : QW wa, m.val.cell? ⟨b, 0, none⟩ = some (.string ⟨s.toArray⟩) := fun m => m.cell x0
    have k1 : ∀ m : QW wa, m.val.cell? ⟨b, 1, none⟩ = some (.int .i64 (q : Int)) := fun m => m.cell x1
    clear x0 x1
    have HEnd : Hid (∀ wb, Q wa wb → tenJ (hdB (s.drop q)) = false → (q = p → r = .bad 54 (s.length - p) ∧ ScB wb b s p 0 a ∧ GX [b] w wb) ∧ (q ≠ p → UnP b s a r w (.returned (.tuple #[])) wb)) := Lib.hid (fun wb hq ht => by
      obtain ⟨h1, h2, h3, h4⟩ := HI.out
      constructor
      · intro e
        subst e
        refine ⟨?_, h3.q hq, h4.trans (GX.q hq)⟩
        rw [← HR.out]; unfold digR
        rw [if_neg (by rw [ht]; decide), List.length_drop]
      · intro hne
        refine ⟨rfl, h4.trans (GX.q hq), ?_⟩
        rw [← HR.out]; unfold digR
        rw [if_pos (h2 (by omega))]
        exact ⟨q, hql, by rw [← ten_stop ht, h1]; rfl, h3.q hq⟩)
    by_cases hlt : q < s.length
    · have hd : decide (q < s.length) = true := by simpa using hlt
      obtain ⟨v, hv⟩ : ∃ v, gB s q = v := ⟨_, rfl⟩
      have hh : hdB (s.drop q) = v := by rw [hd_drop hlt, hv]
      by_cases hu : tenJ v = true
      · have hu2 := (ten_iff v).1 hu
        have st := ten_step (s := s) (p := q) (by rw [hh]; exact hu)
        have g1 : decide ((48 : Int) ≤ (v.toNat : Int)) = true := by simp; omega
        have g2 : decide ((v.toNat : Int) ≤ 57) = true := by simp; omega
        have HT : Hid (tenAt s (q + 1) = tenAt s p ∧ (p < q + 1 → tenJ (hdB (s.drop p)) = true)) := Lib.hid ⟨st.2.trans HI.out.1, fun _ => by
          by_cases e : p = q
          · rw [e, hh]; exact hu
          · exact HI.out.2.1 (by omega)⟩
        clear hu hu2 st hh HEnd
        go_upto_region 1 with (fail)
        refine wp_region_q (by kernel_rfl) (by kernel_rfl) ?_
        (repeat (go_big_quiet_step (fail)))
        refine wpQuiet_nil ?_
        rintro wb ⟨mb, hmb⟩
        have hqb : Q wa wb := by rw [hmb]; exact mb.le
        have hb1 := HI.out.2.2.1.q hqb
        obtain ⟨-, y1, -, -⟩ := hb1.c
        have f1 := hb1.f 1
        have HN : Hid (tenAt s (q + 1) = tenAt s p ∧ (p < q + 1 → tenJ (hdB (s.drop p)) = true) ∧ ScB (wb.setCell ⟨b, 1, none⟩ (.int .i64 ((q : Int) + 1))) b s (q + 1) 0 a ∧ GX [b] w (wb.setCell ⟨b, 1, none⟩ (.int .i64 ((q : Int) + 1)))) := Lib.hid ⟨HT.out.1, HT.out.2, by have := hb1.set (q + 1); simpa using this, (HI.out.2.2.2.trans (GX.q hqb)).set (by simp) _ _⟩
        clear mb hmb hqb hb1 k0 k1 HI g1 g2
        go_wp2_with fail
        go_roundg g'
        case measure => omega
        case rel => exact ⟨q + 1, by omega, by omega, by omega, HN⟩
      · have hu2 : ¬ (48 ≤ v.toNat ∧ v.toNat ≤ 57) := fun h => hu ((ten_iff v).2 h)
        have HE2 := Lib.hid (fun wb hq => HEnd.out wb hq (by rw [hh]; simpa using hu))
        clear HEnd hh hu
        by_cases h48 : 48 ≤ v.toNat
        case' pos =>
          have g1 : decide ((48 : Int) ≤ (v.toNat : Int)) = true := by simp; omega
          have g2 : decide ((v.toNat : Int) ≤ 57) = false := by simp; omega
        case' neg =>
          have g1 : decide ((48 : Int) ≤ (v.toNat : Int)) = false := by simp; omega
        all_goals
          clear hu2 h48
          go_upto_region 1 with (fail)
          refine wp_region_q (by kernel_rfl) (by kernel_rfl) ?_
          (repeat (go_big_quiet_step (fail)))
          refine wpQuiet_nil ?_
          rintro wb ⟨mb, hmb⟩
          have hqb : Q wa wb := by rw [hmb]; exact mb.le
          obtain ⟨-, y1, -, -⟩ := (HI.out.2.2.1.q hqb).c
          have HE3 := Lib.hid (HE2.out wb hqb)
          clear mb hmb hqb k0 k1 HI HE2 g1
          by_cases hqp : q = p
          · obtain ⟨hb1, hb2, hb3⟩ := HE3.out.1 hqp
            subst hqp
            have HNo := Lib.hid (no_any b s q 0 a 54 q wb hb2)
            have HB := Lib.hid (⟨hb1, hb3⟩ : _ ∧ _)
            clear hb1 hb2 hb3 HE3
            go_wp2_with fail
            refine HNo.out.mono ?_
            rintro e wc ⟨rfl, hs2, hg2⟩
            have HX : Hid (UnP b s a r w (.returned (.tuple #[])) wc) := Lib.hid ⟨rfl, HB.out.2.trans hg2, by
              rw [HB.out.1]
              refine ⟨q, hql, ⟨by decide, by omega⟩, ?_⟩
              rw [show s.length - (s.length - q) = q by omega]
              simpa [keepE] using hs2⟩
            clear hs2 hg2
            go_wp2_with fail
            refine bodyPost_ret (results_none rfl _ _ _) rfl ?_
            exact HX.out
          · have HX := Lib.hid (HE3.out.2 hqp)
            have hqpd : (((q : Int)) == (p : Int)) = false := by simp; omega
            clear HE3
            go_wp2_with fail
            refine bodyPost_ret (results_none rfl _ _ _) rfl ?_
            exact HX.out
    · have hd : decide (q < s.length) = false := by simpa using hlt
      have HE2 := Lib.hid (fun wb hq => HEnd.out wb hq (by rw [hd_drop_end (by omega)]; rfl))
      clear HEnd
      go_upto_region 1 with (fail)
      refine wp_region_q (by kernel_rfl) (by kernel_rfl) ?_
      (repeat (go_big_quiet_step (fail)))
      refine wpQuiet_nil ?_
      rintro wb ⟨mb, hmb⟩
      have hqb : Q wa wb := by rw [hmb]; exact mb.le
      obtain ⟨-, y1, -, -⟩ := (HI.out.2.2.1.q hqb).c
      have HE3 := Lib.hid (HE2.out wb hqb)
      clear mb hmb hqb k0 k1 HI HE2
      by_cases hqp : q = p
      · obtain ⟨hb1, hb2, hb3⟩ := HE3.out.1 hqp
        subst hqp
        have HNo := Lib.hid (no_any b s q 0 a 54 q wb hb2)
        have HB := Lib.hid (⟨hb1, hb3⟩ : _ ∧ _)
        clear hb1 hb2 hb3 HE3
        go_wp2_with fail
        refine HNo.out.mono ?_
        rintro e wc ⟨rfl, hs2, hg2⟩
        have HX : Hid (UnP b s a r w (.returned (.tuple #[])) wc) := Lib.hid ⟨rfl, HB.out.2.trans hg2, by
          rw [HB.out.1]
          refine ⟨q, hql, ⟨by decide, by omega⟩, ?_⟩
          rw [show s.length - (s.length - q) = q by omega]
          simpa [keepE] using hs2⟩
        clear hs2 hg2
        go_wp2_with fail
        refine bodyPost_ret (results_none rfl _ _ _) rfl ?_
        exact HX.out
      · have HX := Lib.hid (HE3.out.2 hqp)
        have hqpd : (((q : Int)) == (p : Int)) = false := by simp; omega
        clear HE3
        go_wp2_with fail
        refine bodyPost_ret (results_none rfl _ _ _) rfl ?_
        exact HX.out
end Go.Proofs.YtlhhiiemojhjdaaDoor
set_option linter.unusedVariables false
set_option linter.unusedSimpArgs false
namespace Go.Proofs.YtlhhiiemojhjdaaDoor
open Go Go.RowKit
theorem ScB.at1 {w : World} {b : Nat} {s : Txt} {p : Nat} {c a : Int} (h : ScB w b s p c a) : ScB (w.setCell ⟨b, 1, none⟩ (.int .i64 ((p : Int) + 1))) b s (p + 1) c a := by
  have := h.set (p + 1); simpa using this
theorem tail_drop' (s : Txt) (p : Nat) : (s.drop p).tail = s.drop (p + 1) := by rw [List.tail_drop]
theorem hd_is {s : Txt} {p : Nat} {x : UInt8} {m : Bool} (hx : x ≠ 0) (h : isB s p x = m) : (hdB (s.drop p) = x) = (m = true) := by
  rw [is_hd hx] at h
  subst h
  simp
theorem hd_ite {s : Txt} {p : Nat} {x : UInt8} {m : Bool} (hx : x ≠ 0) (h : isB s p x = m) {α : Type} (u v : α) : (if hdB (s.drop p) = x then u else v) = if m = true then u else v := by simp only [hd_is hx h]
theorem hd_ite2 {s : Txt} {p : Nat} {x y : UInt8} {m k : Bool} (hx : x ≠ 0) (hy : y ≠ 0) (h : isB s p x = m) (h2 : isB s p y = k) {α : Type} (u v : α) : (if hdB (s.drop p) = x ∨ hdB (s.drop p) = y then u else v) = if (m || k) = true then u else v := by simp only [hd_is hx h, hd_is hy h2, Bool.or_eq_true]
theorem is_lt {s : Txt} {p : Nat} {x : UInt8} (h : isB s p x = true) : p < s.length := ((is_iff s p x).1 h).1
def SgSt (b : Nat) (s : Txt) (p : Nat) (a : Int) (w wx : World) : Prop := GX [b] w wx ∧ ∃ q, q ≤ s.length ∧ minusR (s.drop p) = s.drop q ∧ ScB wx b s q 0 a
theorem UnR.grow {b : Nat} {s : Txt} {a : Int} {r : PR Unit} {w w1 w2 : World} (h : UnR b s a r w1 w2) (hg : GX [b] w w1) : UnR b s a r w w2 := ⟨hg.trans h.1, h.2⟩
theorem UnR.q {b : Nat} {s : Txt} {a : Int} {r : PR Unit} {w w1 w2 : World} (h : UnR b s a r w w1) (hq : Q w1 w2) : UnR b s a r w w2 := by
  refine ⟨h.1.trans (GX.q hq), ?_⟩
  have h2 := h.2
  cases r with
  | ok _ t => obtain ⟨q, h3, h4, h5⟩ := h2; exact ⟨q, h3, h4, h5.q hq⟩
  | bad c n => obtain ⟨q, h3, h4, h5⟩ := h2; exact ⟨q, h3, h4, h5.q hq⟩
theorem UnR.st {b : Nat} {s : Txt} {a : Int} {r : PR Unit} {w wx : World} (h : UnR b s a r w wx) : ∃ (q : Nat) (c a' : Int), q ≤ s.length ∧ ScB wx b s q c a' ∧ GX [b] w wx ∧ ((c = 0 ∧ a' = a ∧ r = .ok () (s.drop q)) ∨ (c ≠ 0 ∧ ∃ c0 n, r = .bad c0 n)) := by
  obtain ⟨hg, h2⟩ := h
  cases r with
  | ok u t => obtain ⟨q, h3, h4, h5⟩ := h2; exact ⟨q, 0, a, h3, h5, hg, .inl ⟨rfl, rfl, by rw [h4]⟩⟩
  | bad c n => obtain ⟨q, h3, h4, h5⟩ := h2; exact ⟨q, _, _, h3, h5, hg, .inr ⟨by omega, c, n, rfl⟩⟩
theorem UnR.ok {b : Nat} {s : Txt} {a : Int} {t : Txt} {w wx : World} {q : Nat} (hg : GX [b] w wx) (hq : q ≤ s.length) (ht : s.drop q = t) (hs : ScB wx b s q 0 a) : UnR b s a (.ok () t) w wx := ⟨hg, q, hq, ht, hs⟩
theorem isn_is (b : Nat) (s : Txt) (p : Nat) (c a : Int) (x : UInt8) (w : World) (h : ScB w b s p c a) (r : Bool) (hr : isB s p x = r) :
    Calls Tryd.prog 107 #[.pointer (some ⟨b, 0, none⟩), .int .u8 x.toNat] w fun e w' => e = .returned (.bool r) ∧ Q w w' := by
  have := is_any b s p c a x w h; rw [hr] at this; exact this
set_option maxRecDepth 100000 in
set_option maxHeartbeats 8000000 in
theorem rnumber_any (b : Nat) (s : Txt) (p : Nat) (a : Int) (w : World) (h : ScB w b s p 0 a) (hp : p ≤ s.length) (hl : s.length ≤ 1000000000) :
    Calls Tryd.prog 86 #[.pointer (some ⟨b, 0, none⟩)] w (UnP b s a (numR (s.drop p)) w) := by
  obtain ⟨r, hr⟩ : ∃ r, numR (s.drop p) = r := ⟨_, rfl⟩
  have HR := Lib.hid hr
  rw [hr]
  clear hr
  have H := Lib.hid h
  have HL := Lib.hid hl
  obtain ⟨m, hm⟩ : ∃ m, isB s p 45 = m := ⟨_, rfl⟩
  have HIs := Lib.hid (isn_is b s p 0 a 45 w h m hm)
  have HM := Lib.hid hm
  clear h hm
  go_enter Tryd.func86, Tryd.ntmps86
  go_wp2_with fail
  refine HIs.out.mono ?_
  rintro e w1 ⟨rfl, hq1⟩
  have HQ1 := Lib.hid hq1
  have H1 := Lib.hid (H.out.q hq1)
  clear hq1 HIs
  obtain ⟨-, y1, -, -⟩ := H1.out.c
  have f1 := H1.out.f 1
  have HMi : Hid (minusR (s.drop p) = s.drop (if m = true then p + 1 else p)) := Lib.hid (by
    unfold minusR
    rw [hd_ite (by decide) HM.out, tail_drop']
    cases m <;> rfl)
  go_upto_if 11 with (fail)
  go_cut [] (fun wx => Hid (SgSt b s p a w wx))
  case first =>
    cases m with
    | true =>
      have HX : Hid (SgSt b s p a w (w1.setCell ⟨b, 1, none⟩ (.int .i64 ((p : Int) + 1)))) := Lib.hid ⟨(GX.q HQ1.out).set (by simp) _ _, p + 1, by have := is_lt HM.out; omega, by rw [HMi.out]; rfl, H1.out.at1⟩
      go_wp2_with fail
      go_meet
      exact HX
    | false =>
      have HX : Hid (SgSt b s p a w w1) := Lib.hid ⟨GX.q HQ1.out, p, hp, by rw [HMi.out]; rfl, H1.out⟩
      go_wp2_with fail
      go_meet
      exact HX
  case rest =>
    rename World => w2
    obtain ⟨hg2, q, hql, hmq, hs2⟩ := hcut.out
    clear hcut y1 f1 H1 HQ1 HM HMi
    obtain ⟨m, hm⟩ : ∃ m, isB s q 48 = m := ⟨_, rfl⟩
    have HIs := Lib.hid (isn_is b s q 0 a 48 w2 hs2 m hm)
    have H2 := Lib.hid (⟨hg2, hmq, hs2, hm⟩ : _ ∧ _ ∧ _ ∧ _)
    clear hg2 hmq hs2 hm
    go_wp2_with fail
    refine HIs.out.mono ?_
    rintro e w3 ⟨rfl, hq3⟩
    have H3 := Lib.hid (H2.out.2.2.1.q hq3)
    have HG3 := Lib.hid (H2.out.1.trans (GX.q hq3))
    clear hq3 HIs
    obtain ⟨-, y1, -, -⟩ := H3.out.c
    have f1 := H3.out.f 1
    have HIn : Hid (intR (minusR (s.drop p)) = if m = true then .ok () (s.drop (q + 1)) else digR (s.drop q)) := Lib.hid (by
      rw [H2.out.2.1]; unfold intR
      rw [hd_ite (by decide) H2.out.2.2.2, tail_drop'])
    obtain ⟨r1, hr1⟩ : ∃ r1, intR (minusR (s.drop p)) = r1 := ⟨_, rfl⟩
    have HR1 := Lib.hid hr1
    rw [hr1] at HIn
    clear hr1
    go_upto_if 21 with (fail)
    go_cut [] (fun wx => Hid (UnR b s a r1 w wx))
    case first =>
      cases m with
      | true =>
        have HX : Hid (UnR b s a r1 w (w3.setCell ⟨b, 1, none⟩ (.int .i64 ((q : Int) + 1)))) := Lib.hid (by
          rw [HIn.out, if_pos rfl]
          exact UnR.ok (HG3.out.set (by simp) _ _) (by have := is_lt H2.out.2.2.2; omega) rfl H3.out.at1)
        go_wp2_with fail
        go_meet
        exact HX
      | false =>
        have HDg := Lib.hid (rdigits_any b s q a w3 H3.out hql HL.out)
        clear y1 f1
        go_wp2_with fail
        refine HDg.out.mono ?_
        rintro e w4 ⟨rfl, hu⟩
        have HX : Hid (UnR b s a r1 w w4) := Lib.hid (by
          have e : r1 = digR (s.drop q) := by rw [HIn.out]; exact if_neg (by decide)
          rw [e]
          exact hu.grow HG3.out)
        clear hu HDg
        go_wp2_with fail
        go_meet
        exact HX
    case rest =>
      rename World => w4
      have HU1 := hcut
      clear hcut y1 f1 H3 HG3 H2 HIn
      have HRe : Hid (r = r1.bind fun _ l2 => (fracR l2).bind fun _ l3 => expR l3) := Lib.hid (by rw [← HR.out]; unfold numR; rw [HR1.out])
      clear HR HR1
      obtain ⟨q4, c4, a4, hq4, hs4, hg4, hc4⟩ := HU1.out.st
      rcases hc4 with ⟨rfl, rfl, hr4⟩ | ⟨hc4, c0, n0, hr4⟩
      case' inr =>
        have hcd : (c4 == 0) = false := by simpa using hc4
        have e4 : r = .bad c0 n0 := by rw [HRe.out, hr4]; rfl
        have HX4 : Hid (∀ wx, Q w4 wx → UnP b s a r w (.returned (.tuple #[])) wx) := Lib.hid (fun wx hq => ⟨rfl, by
          have := HU1.out.q hq
          rw [hr4] at this; rw [e4]; exact this⟩)
        have HSq : Hid (∀ wx, Q w4 wx → wx.cell? ⟨b, 2, none⟩ = some (.int .i64 c4)) := Lib.hid (fun wx hq => (hs4.q hq).c.2.2.1)
        have HI0 : Hid (∀ (x : UInt8) wx, Q w4 wx → ∃ r, Calls Tryd.prog 107 #[.pointer (some ⟨b, 0, none⟩), .int .u8 x.toNat] wx fun e w' => e = .returned (.bool r) ∧ Q wx w') := Lib.hid (fun x wx hq => ⟨_, is_any b s q4 c4 a4 x wx (hs4.q hq)⟩)
        clear hs4 hg4 hc4 hr4 e4 HRe HU1
        obtain ⟨ra, hra⟩ := HI0.out 46 w4 (Q.refl _)
        have HA := Lib.hid hra
        clear hra
        go_wp2_with fail
        refine HA.out.mono ?_
        rintro e w5 ⟨rfl, hq5⟩
        have y2 := HSq.out w5 hq5
        obtain ⟨rb, hrb⟩ := HI0.out 101 w5 hq5
        have HB := Lib.hid hrb
        have HQ5 := Lib.hid hq5
        clear hrb hq5 HA
        go_wp2_with fail
        refine HB.out.mono ?_
        rintro e w6 ⟨rfl, hq6⟩
        obtain ⟨rc, hrc⟩ := HI0.out 69 w6 (HQ5.out.trans hq6)
        have HC := Lib.hid hrc
        have HQ6 := Lib.hid (HQ5.out.trans hq6)
        clear hrc hq6 HB y2
        go_wp2_with fail
        refine HC.out.mono ?_
        rintro e w7 ⟨rfl, hq7⟩
        have y2 := HSq.out w7 (HQ6.out.trans hq7)
        have HX := Lib.hid (HX4.out w7 (HQ6.out.trans hq7))
        clear hq7 HC HI0
        go_wp2_with fail
        refine bodyPost_ret (results_none rfl _ _ _) rfl ?_
        exact HX.out
      obtain ⟨m4, hm4⟩ : ∃ m, isB s q4 46 = m := ⟨_, rfl⟩
      have HIs4 := Lib.hid (isn_is b s q4 0 a4 46 w4 hs4 m4 hm4)
      have H4 := Lib.hid (⟨hs4, hg4, hr4, hm4⟩ : _ ∧ _ ∧ _ ∧ _)
      clear hs4 hg4 hr4 hm4
      go_wp2_with fail
      refine HIs4.out.mono ?_
      rintro e w5 ⟨rfl, hq5⟩
      have hs5 := H4.out.1.q hq5
      have HG5 := Lib.hid (H4.out.2.1.trans (GX.q hq5))
      obtain ⟨-, y1, y2, -⟩ := hs5.c
      have f1 := hs5.f 1
      have HS5 := Lib.hid hs5
      clear hq5 HIs4 hs5 HU1
      obtain ⟨r2, hr2⟩ : ∃ r2, fracR (s.drop q4) = r2 := ⟨_, rfl⟩
      have HRf : Hid (r = r2.bind fun _ l3 => expR l3) := Lib.hid (by
        rw [HRe.out, H4.out.2.2.1, ← hr2]; rfl)
      have HF4 : Hid (r2 = if m4 = true then digR (s.drop (q4 + 1)) else .ok () (s.drop q4)) := Lib.hid (by
        rw [← hr2]
        unfold fracR
        rw [hd_ite (by decide) H4.out.2.2.2, tail_drop'])
      clear hr2 HRe
      go_upto_if 40 with (fail)
      go_cut [] (fun wx => Hid (UnR b s a4 r2 w wx))
      case first =>
        cases m4 with
        | true =>
          have HS6 := Lib.hid HS5.out.at1
          have HDg := Lib.hid (rdigits_any b s (q4 + 1) a4 _ HS6.out (by have := is_lt H4.out.2.2.2; omega) HL.out)
          have HG6 : Hid (GX [b] w (w5.setCell ⟨b, 1, none⟩ (.int .i64 ((q4 : Int) + 1)))) := Lib.hid (HG5.out.set (by simp) _ _)
          go_wp2_with fail
          refine HDg.out.mono ?_
          rintro e w6 ⟨rfl, hu⟩
          have HX : Hid (UnR b s a4 r2 w w6) := Lib.hid (by
            have e : r2 = digR (s.drop (q4 + 1)) := by rw [HF4.out]; simp
            rw [e]
            exact hu.grow HG6.out)
          clear hu HDg
          go_wp2_with fail
          go_meet
          exact HX
        | false =>
          have HX : Hid (UnR b s a4 r2 w w5) := Lib.hid (by
            have e : r2 = .ok () (s.drop q4) := by rw [HF4.out]; simp
            rw [e]
            exact UnR.ok HG5.out hq4 rfl HS5.out)
          go_wp2_with fail
          go_meet
          exact HX
      case rest =>
        rename World => w6
        have HU6 := hcut
        clear hcut y1 y2 f1 HS5 HG5 H4 HF4
        obtain ⟨q6, c6, a6, hq6, hs6, hg6, hc6⟩ := HU6.out.st
        obtain ⟨me, hme⟩ : ∃ m, isB s q6 101 = m := ⟨_, rfl⟩
        obtain ⟨mE, hmE⟩ : ∃ m, isB s q6 69 = m := ⟨_, rfl⟩
        have HIe := Lib.hid (isn_is b s q6 c6 a6 101 w6 hs6 me hme)
        have H6 := Lib.hid (⟨hs6, hg6, hc6, hme, hmE⟩ : _ ∧ _ ∧ _ ∧ _ ∧ _)
        clear hs6 hg6 hc6 hme
        go_wp2_with fail
        refine HIe.out.mono ?_
        rintro e w7 ⟨rfl, hq7⟩
        have HIE := Lib.hid (isn_is b s q6 c6 a6 69 w7 (H6.out.1.q hq7) mE hmE)
        have HQ7 := Lib.hid hq7
        clear hq7 HIe hmE
        go_wp2_with fail
        refine HIE.out.mono ?_
        rintro e w8 ⟨rfl, hq8⟩
        have HU8 := Lib.hid (HU6.out.q (HQ7.out.trans hq8))
        have hs8 := H6.out.1.q (HQ7.out.trans hq8)
        have HG8 := Lib.hid (H6.out.2.1.trans (GX.q (HQ7.out.trans hq8)))
        obtain ⟨-, y1, y2, -⟩ := hs8.c
        have f1 := hs8.f 1
        have HS8 := Lib.hid hs8
        clear hq8 HIE hs8 HU6 HQ7
        rcases H6.out.2.2.1 with ⟨hc, ha, hr⟩ | ⟨hc, c0, n, hr⟩
        · subst hc
          subst ha
          have HF8 : Hid (r = if (me || mE) = true then digR (signR (s.drop (q6 + 1))) else .ok () (s.drop q6)) := Lib.hid (by
            rw [HRf.out, hr]
            show expR (s.drop q6) = _
            unfold expR
            rw [hd_ite2 (by decide) (by decide) H6.out.2.2.2.1 H6.out.2.2.2.2, tail_drop'])
          clear hr
          by_cases hem : (me || mE) = true
          · have hq7 : q6 + 1 ≤ s.length := by
              rw [Bool.or_eq_true] at hem
              rcases hem with h | h
              · have := is_lt (H6.out.2.2.2.1.trans h); omega
              · have := is_lt (H6.out.2.2.2.2.trans h); omega
            have HF9 : Hid (r = digR (signR (s.drop (q6 + 1)))) := Lib.hid (by rw [HF8.out]; exact if_pos hem)
            have HS9 := Lib.hid HS8.out.at1
            have HG9 : Hid (GX [b] w (w8.setCell ⟨b, 1, none⟩ (.int .i64 ((q6 : Int) + 1)))) := Lib.hid (HG8.out.set (by simp) _ _)
            obtain ⟨w9, hw9⟩ : ∃ w9, w8.setCell ⟨b, 1, none⟩ (.int .i64 ((q6 : Int) + 1)) = w9 := ⟨_, rfl⟩
            rw [hw9] at HS9 HG9
            obtain ⟨mp, hmp⟩ : ∃ m, isB s (q6 + 1) 43 = m := ⟨_, rfl⟩
            obtain ⟨mm, hmm⟩ : ∃ m, isB s (q6 + 1) 45 = m := ⟨_, rfl⟩
            have HIp := Lib.hid (isn_is b s (q6 + 1) 0 a6 43 w9 HS9.out mp hmp)
            have HM9 := Lib.hid (⟨hmp, hmm⟩ : _ ∧ _)
            clear HF8 hmp
            have hwalk : ∀ x y : Bool, me = x → mE = y → (x || y) = true → True := fun _ _ _ _ _ => trivial
            clear hwalk
            rcases me with _ | _ <;> rcases mE with _ | _
            case' false.false => exact absurd hem (by decide)
            all_goals
              clear hem
              go_wp2_with fail
              refine HIp.out.mono ?_
              rintro e wa ⟨rfl, hqa⟩
              have HIm := Lib.hid (isn_is b s (q6 + 1) 0 a6 45 wa (HS9.out.q hqa) mm hmm)
              have HQa := Lib.hid hqa
              clear hqa hw9 y1 y2 f1 hmm
              go_wp2_with fail
              refine HIm.out.mono ?_
              rintro e wb ⟨rfl, hqb⟩
              have hsb := HS9.out.q (HQa.out.trans hqb)
              have HGb := Lib.hid (HG9.out.trans (GX.q (HQa.out.trans hqb)))
              obtain ⟨-, y1, -, -⟩ := hsb.c
              have f1 := hsb.f 1
              have HSb := Lib.hid hsb
              clear hqb HQa HIm hsb
              have HSg : Hid (signR (s.drop (q6 + 1)) = if (mp || mm) = true then s.drop (q6 + 1 + 1) else s.drop (q6 + 1)) := Lib.hid (by
                unfold signR
                rw [hd_ite2 (by decide) (by decide) HM9.out.1 HM9.out.2, tail_drop'])
              by_cases hpm : (mp || mm) = true
              · have HSc := Lib.hid HSb.out.at1
                have HGc : Hid (GX [b] w (wb.setCell ⟨b, 1, none⟩ (.int .i64 (((q6 + 1 : Nat) : Int) + 1)))) := Lib.hid (HGb.out.set (by simp) _ _)
                have hq8 : q6 + 1 + 1 ≤ s.length := by
                  rw [Bool.or_eq_true] at hpm
                  rcases hpm with h | h
                  · have := is_lt (HM9.out.1.trans h); omega
                  · have := is_lt (HM9.out.2.trans h); omega
                have HDg := Lib.hid (rdigits_any b s (q6 + 1 + 1) a6 _ HSc.out hq8 HL.out)
                have HFd : Hid (r = digR (s.drop (q6 + 1 + 1))) := Lib.hid (by rw [HF9.out, HSg.out, if_pos hpm])
                rcases mp with _ | _ <;> rcases mm with _ | _
                case' false.false => exact absurd hpm (by decide)
                all_goals
                  clear hpm
                  go_wp2_with fail
                  refine HDg.out.mono ?_
                  rintro e wc ⟨rfl, hu⟩
                  have HX : Hid (UnP b s a6 r w (.returned (.tuple #[])) wc) := Lib.hid ⟨rfl, by rw [HFd.out]; exact hu.grow HGc.out⟩
                  clear hu HDg
                  go_wp2_with fail
                  refine bodyPost_ret (results_none rfl _ _ _) rfl ?_
                  exact HX.out
              · have HDg := Lib.hid (rdigits_any b s (q6 + 1) a6 _ HSb.out hq7 HL.out)
                have HFd : Hid (r = digR (s.drop (q6 + 1))) := Lib.hid (by rw [HF9.out, HSg.out, if_neg hpm])
                have hpm1 : mp = false := by cases mp <;> simp_all
                have hpm2 : mm = false := by cases mm <;> simp_all
                subst hpm1
                subst hpm2
                clear hpm
                go_wp2_with fail
                refine HDg.out.mono ?_
                rintro e wc ⟨rfl, hu⟩
                have HX : Hid (UnP b s a6 r w (.returned (.tuple #[])) wc) := Lib.hid ⟨rfl, by rw [HFd.out]; exact hu.grow HGb.out⟩
                clear hu HDg
                go_wp2_with fail
                refine bodyPost_ret (results_none rfl _ _ _) rfl ?_
                exact HX.out
          · have HX : Hid (UnP b s a6 r w (.returned (.tuple #[])) w8) := Lib.hid ⟨rfl, by
              have e : r = .ok () (s.drop q6) := by rw [HF8.out]; exact if_neg hem
              rw [e]
              exact UnR.ok HG8.out hq6 rfl HS8.out⟩
            have he1 : me = false := by cases me <;> simp_all
            have he2 : mE = false := by cases mE <;> simp_all
            subst he1
            subst he2
            clear hem
            go_wp2_with fail
            refine bodyPost_ret (results_none rfl _ _ _) rfl ?_
            exact HX.out
        · have hcd : (c6 == 0) = false := by simpa using hc
          have HX : Hid (UnP b s a4 r w (.returned (.tuple #[])) w8) := Lib.hid ⟨rfl, by
            have e : r = r2 := by rw [HRf.out, hr]; rfl
            rw [e]; exact HU8.out⟩
          clear hc hr
          go_wp2_with fail
          refine bodyPost_ret (results_none rfl _ _ _) rfl ?_
          exact HX.out
end Go.Proofs.YtlhhiiemojhjdaaDoor
set_option linter.unusedVariables false
set_option linter.unusedSimpArgs false
namespace Go.Proofs.YtlhhiiemojhjdaaDoor
open Go Go.RowKit
end Go.Proofs.YtlhhiiemojhjdaaDoor
set_option linter.unusedVariables false
set_option linter.unusedSimpArgs false
namespace Go.Proofs.YtlhhiiemojhjdaaDoor
open Go Go.RowKit
theorem ScB.atn {w : World} {b : Nat} {s : Txt} {p : Nat} {c a : Int} (h : ScB w b s p c a) (q : Nat) (z : Int) (hz : z = (q : Int)) : ScB (w.setCell ⟨b, 1, none⟩ (.int .i64 z)) b s q c a := by
  subst hz; exact h.set q
end Go.Proofs.YtlhhiiemojhjdaaDoor
