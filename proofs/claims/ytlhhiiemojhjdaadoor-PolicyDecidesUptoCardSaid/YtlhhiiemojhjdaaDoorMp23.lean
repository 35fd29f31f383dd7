/- Texts of this proof, laid into one: PoR, PoS, PoT, PoU. -/
import Derived.Test.YtlhhiiemojhjdaaDoorMp22
/- Law 18: PolicyMore. -/
set_option linter.unusedVariables false
set_option linter.unusedSimpArgs false
namespace Go.Proofs.YtlhhiiemojhjdaaDoor
open Go Go.RowKit
/-- Statements' cells, whose texts stand in an older world. -/
def StKV (w : World) : List StmtD → List Value → Prop
  | [], cells => cells = []
  | s :: r, cells => ∃ va vb vc rest, cells = stmC s va vb vc ++ rest ∧ StmV w s va vb vc ∧ StKV w r rest
theorem StKV.snoc {w : World} {s : StmtD} {va vb vc : Value} (h1 : StmV w s va vb vc) : ∀ {l : List StmtD} {cells : List Value}, StKV w l cells → StKV w (l ++ [s]) (cells ++ stmC s va vb vc)
  | [], cells, h => by
    have h : cells = [] := h
    subst h
    exact ⟨va, vb, vc, [], by simp, h1, rfl⟩
  | x :: r, cells, h => by
    obtain ⟨ua, ub, uc, rest, e, g1, g2⟩ := h
    exact ⟨ua, ub, uc, rest ++ stmC s va vb vc, by rw [e, List.append_assoc], g1, StKV.snoc h1 g2⟩
theorem StKV.at {w : World} : ∀ {l : List StmtD} {cells : List Value}, StKV w l cells → ∀ {i : Nat}, i < l.length → ∃ va vb vc, StmV w (gSt l i) va vb vc ∧ ∀ m u, (stmC (gSt l i) va vb vc)[m]? = some u → cells[i * 4 + m]? = some u
  | [], cells, h, i, hi => absurd hi (by simp)
  | s :: r, cells, h, i, hi => by
    obtain ⟨va, vb, vc, rest, e, h1, h4⟩ := h
    cases i with
    | zero =>
      refine ⟨va, vb, vc, h1, fun m u hu => ?_⟩
      have hu : (stmC s va vb vc)[m]? = some u := hu
      have hm := (List.getElem?_eq_some_iff.1 hu).1
      rw [e, Nat.zero_mul, Nat.zero_add, List.getElem?_append_left hm]; exact hu
    | succ i =>
      obtain ⟨ua, ub, uc, g1, g4⟩ := StKV.at h4 (i := i) (by simpa using hi)
      refine ⟨ua, ub, uc, g1, fun m u hu => ?_⟩
      have hl : (stmC s va vb vc).length = 4 := rfl
      rw [e, List.getElem?_append_right (by rw [hl]; omega)]
      have : (i + 1) * 4 + m - (stmC s va vb vc).length = i * 4 + m := by rw [hl]; omega
      rw [this]; exact g4 m u hu
/-- Statements in a row of the call's own; their texts stand in the world w. -/
def RowS (w wx : World) (v : Value) (L : List StmtD) : Prop := (∃ cells, wx.ownsRow w.heap.size 25 4 v L.length cells ∧ StKV w L cells) ∧ Q w wx
theorem RowS.nil {w wx : World} (hq : Q w wx) : RowS w wx (.slice none 0 0) [] := ⟨⟨[], World.ownsRow_nil _ _ _ _, rfl⟩, hq⟩
theorem RowS.q {w wx wy : World} {v : Value} {L : List StmtD} (h : RowS w wx v L) (hq : Q wx wy) : RowS w wy v L := by
  obtain ⟨⟨cells, h1, h2⟩, h3⟩ := h
  exact ⟨⟨cells, ownsRow_frame h1 (fun b _ hb => Below.block hq b hb), h2⟩, h3.trans hq⟩
theorem RowS.read {w wx : World} {v : Value} {L : List StmtD} (h : RowS w wx v L) : StsV wx v L := by
  obtain ⟨⟨cells, h1, h2⟩, hq⟩ := h
  obtain ⟨A, c, e1, e2, e3, e4⟩ := row_cells h1 h1.1
  refine ⟨A, c, e1, e2, Nat.le_trans e3 (by decide), fun i hi => ?_⟩
  obtain ⟨g, rfl, hc⟩ := e4 (by omega)
  obtain ⟨va, vb, vc, g1, g4⟩ := h2.at hi
  refine ⟨g, 0, va, vb, vc, rfl, g1.q hq, hc _ _ (g4 0 _ rfl), ?_, ?_, ?_⟩
  · have := hc _ _ (g4 1 _ rfl); rw [← Nat.add_assoc] at this; exact this
  · have := hc _ _ (g4 2 _ rfl); rw [← Nat.add_assoc] at this; exact this
  · have := hc _ _ (g4 3 _ rfl); rw [← Nat.add_assoc] at this; exact this
theorem RowS.push {w wx wy : World} {v v' : Value} {L : List StmtD} {cells : List Value} {s : StmtD} {va vb vc : Value} (h1 : wx.ownsRow w.heap.size 25 4 v L.length cells) (h2 : StKV w L cells) (hq : Q w wx) (hg : wx.grownBy wy v.ownBlock) (ho : wy.ownsRow w.heap.size 25 4 v' (L.length + 1) (cells ++ stmC s va vb vc)) (hs : StmV w s va vb vc) : RowS w wy v' (L ++ [s]) :=
  ⟨⟨_, by rw [List.length_append]; exact ho, h2.snoc hs⟩, hq.grown hg hq.size (fun k hk => (ownsRow_base h1 hk).1)⟩
theorem new_cells (w : World) (cs : List Value) (e : TypeId) : ∀ (j : Nat) u, cs[j]? = some u → (w.alloc (.cells cs.toArray e)).cell? ((⟨w.heap.size, 0, none⟩ : Addr).add j) = some u := fun j u hj => by
  rw [add_off, cell_of_row _ _ _ _ _ _ (heap_alloc_new w _), Nat.zero_add, ← Array.getElem?_toList]; exact hj
theorem info_stm3' : (Tryd.prog.info? 25).map (fun i => (i.zero, i.size, i.bytes)) = some (some (.agg #[.bool false, .slice none 0 0, .slice none 0 0, .slice none 0 0]), 4, 80) := by kernel_rfl
/-- The counter of a loop that goes down: k elements are left. -/
def DownV (k : Nat) (v : Value) : Prop := (k = 0 ∧ v = .int .i64 (-1)) ∨ ∃ j : Nat, k = j + 1 ∧ v = .int .i64 (j : Int)
theorem drop_rev (l : List StmtD) (j : Nat) (h : j < l.length) : (l.drop j).reverse = (l.drop (j + 1)).reverse ++ [gSt l j] := by
  rw [gSt_drop l j h, List.reverse_cons]
theorem rev_sh {l : List StmtD} (h : ∀ i, i < l.length → ShS (gSt l i)) : ∀ i, i < l.reverse.length → ShS (gSt l.reverse i) := fun i hi => by
  rw [List.length_reverse] at hi
  have : gSt l.reverse i = gSt l (l.length - 1 - i) := by
    simp only [gSt, List.getD]
    rw [List.getElem?_reverse hi]
  rw [this]; exact h _ (by omega)
theorem cons_sh {l : List StmtD} {s : StmtD} (h : ∀ i, i < l.length → ShS (gSt l i)) (hs : ShS s) : ∀ i, i < (s :: l).length → ShS (gSt (s :: l) i) := fun i hi => by
  cases i with
  | zero => exact hs
  | succ i => exact h i (by simpa using hi)
/-- One statement in a row. -/
theorem sts_one {W : World} {s : StmtD} {va vb vc : Value} {M : Nat} (hs : StmV W s va vb vc) (hr : W.heap[M]? = some (.cells #[.bool s.allow, va, vb, vc] 25 (0, 0))) : StsV W (.slice (some ⟨M, 0, none⟩) 1 1) [s] := by
  refine ⟨_, 1, rfl, Nat.le_refl _, by omega, fun i hi => ?_⟩
  have h0 : i = 0 := by simpa using hi
  subst h0
  exact ⟨M, 0, va, vb, vc, rfl, hs, by rw [cell_of_row _ _ _ _ _ _ hr]; rfl, by rw [cell_of_row _ _ _ _ _ _ hr]; rfl, by rw [cell_of_row _ _ _ _ _ _ hr]; rfl, by rw [cell_of_row _ _ _ _ _ _ hr]; rfl⟩
set_option maxRecDepth 100000 in
set_option maxHeartbeats 8000000 in
theorem PolicyMore_walk (l : List StmtD) (s : StmtD) (A1 A2 A3 : Option Addr) (c1 c2 c3 : Nat) (user action resource : Txt) (v : Value) (w : World) (hu : UT w) (hv : StsV w v l) (hs : StmV w s (.slice A1 s.who.length c1) (.slice A2 s.acts.length c2) (.slice A3 s.ress.length c3))
    (hl : l.length ≤ 1100000) (hsh : ∀ i, i < l.length → ShS (gSt l i)) (hss : ShS s) (ha : action.length ≤ 140737488355328) (hr : resource.length ≤ 140737488355328) :
    Calls Tryd.prog 3 #[v, .agg #[.bool s.allow, .slice A1 s.who.length c1, .slice A2 s.acts.length c2, .slice A3 s.ress.length c3], .string ⟨user.toArray⟩, .string ⟨action.toArray⟩, .string ⟨resource.toArray⟩] w fun e w' => e = .returned (.bool true) ∧ Q w w' := by
  obtain ⟨A, c, rfl⟩ : ∃ A c, v = .slice A l.length c := by obtain ⟨A, c, e, _⟩ := hv; exact ⟨A, c, e⟩
  have HU := Lib.hid hu
  have HV := Lib.hid hv
  have HSm := Lib.hid hs
  have HDec : Hid (∀ (L : List StmtD) (u : Value) (W : World), StsV W u L → (∀ i, i < L.length → ShS (gSt L i)) → Calls Tryd.prog 13 #[u, .string ⟨user.toArray⟩, .string ⟨action.toArray⟩, .string ⟨resource.toArray⟩] W fun e w' => e = .returned (.int .i64 ((decideL L user action resource : Nat) : Int)) ∧ Q W w') := Lib.hid (fun L u W h1 h2 => Decide_any L user action resource u W h1 h2 ha hr)
  have HSh := Lib.hid hsh
  have HSs := Lib.hid hss
  obtain ⟨wn, hwn⟩ : ∃ n, s.who.length = n := ⟨_, rfl⟩
  obtain ⟨an, han⟩ : ∃ n, s.acts.length = n := ⟨_, rfl⟩
  obtain ⟨rn, hrn⟩ : ∃ n, s.ress.length = n := ⟨_, rfl⟩
  obtain ⟨al, hal⟩ : ∃ n, s.allow = n := ⟨_, rfl⟩
  rw [hwn, han, hrn] at HSm ⊢
  rw [hal]
  have HAl := Lib.hid hal
  have HLn := Lib.hid hl
  have hnl : l.length ≤ 9223372036854775807 := by omega
  clear hu hv hs ha hr hsh hss hwn han hrn hal
  obtain ⟨ti, hi, hz0, hz1, hz2⟩ := info_parts info_stm3'
  -- the numbers
  obtain ⟨Av, hAv⟩ : ∃ x : Int, ((decideL l user action resource : Nat) : Int) = x := ⟨_, rfl⟩
  obtain ⟨Bv, hBv⟩ : ∃ x : Int, ((decideL (s :: l.reverse) user action resource : Nat) : Int) = x := ⟨_, rfl⟩
  obtain ⟨Ov, hOv⟩ : ∃ x : Int, ((decideL [s] user action resource : Nat) : Int) = x := ⟨_, rfl⟩
  have HMax : Hid (Bv = max Av Ov) := Lib.hid (by rw [← hAv, ← hBv, ← hOv, decide_more]; omega)
  have HOne : Hid ((Ov = 0 ∨ Ov = 1 ∨ Ov = 2) ∧ (Ov = 1 → al = true) ∧ (Ov = 2 → al = false)) := Lib.hid (by
    have h1 := decide_le [s] user action resource
    have h2 := decide_one s user action resource
    rw [HAl.out] at h2
    exact ⟨by omega, fun h => h2.1 (by omega), fun h => h2.2 (by omega)⟩)
  have HAv := Lib.hid hAv
  have HBv := Lib.hid hBv
  have HOv := Lib.hid hOv
  clear hAv hBv hOv
  go_enter Tryd.func3, Tryd.ntmps3
  go_upto_region 1 with (fail)
  have hr0 := heap_alloc_new w (.cells #[.bool al, .slice A1 wn c1, .slice A2 an c2, .slice A3 rn c3] 25)
  obtain ⟨W0, hW0⟩ : ∃ W0, w.alloc (.cells #[.bool al, .slice A1 wn c1, .slice A2 an c2, .slice A3 rn c3] 25) = W0 := ⟨_, rfl⟩
  have hq0 : Q w W0 := by rw [← hW0]; exact (Q.refl w).alloc _
  obtain ⟨N, hN⟩ : ∃ N, w.heap.size = N := ⟨_, rfl⟩
  rw [hW0, hN] at hr0
  rw [hW0, hN]
  clear hW0 hN
  have HR0 := Lib.hid hr0
  have HQ0 := Lib.hid hq0
  have HV0 := Lib.hid (HV.out.q hq0)
  have HEx := Lib.hid (examples18 W0 (Utf8Tabs_below HU.out hq0))
  clear hr0 hq0
  go_wp2_with fail
  refine HEx.out.mono ?_
  rintro e w1 ⟨rfl, hq1⟩
  have HQ01 := Lib.hid hq1
  have HQ1 := Lib.hid (HQ0.out.trans hq1)
  clear hq1 HEx
  have HD1 := Lib.hid (HDec.out l _ w1 (HV.out.q HQ1.out) HSh.out)
  rw [HAv.out] at HD1
  go_wp2_with fail
  refine HD1.out.mono ?_
  rintro e w2 ⟨rfl, hq2⟩
  have HQ2 := Lib.hid (HQ1.out.trans hq2)
  have HQ02 := Lib.hid (HQ01.out.trans hq2)
  have HR2 := Lib.hid (HQ02.out.block HR0.out)
  clear hq2 HD1
  have y0 : w2.cell? ⟨N, 0, none⟩ = some (.bool al) := by rw [cell_of_row _ _ _ _ _ _ HR2.out]; rfl
  have y1 : w2.cell? ⟨N, 1, none⟩ = some (.slice A1 wn c1) := by rw [cell_of_row _ _ _ _ _ _ HR2.out]; rfl
  have y2 : w2.cell? ⟨N, 2, none⟩ = some (.slice A2 an c2) := by rw [cell_of_row _ _ _ _ _ _ HR2.out]; rfl
  have y3 : w2.cell? ⟨N, 3, none⟩ = some (.slice A3 rn c3) := by rw [cell_of_row _ _ _ _ _ _ HR2.out]; rfl
  have HSt0 : Hid ([Value.bool al, .slice A1 wn c1, .slice A2 an c2, .slice A3 rn c3] = stmC s (.slice A1 wn c1) (.slice A2 an c2) (.slice A3 rn c3)) := Lib.hid (by unfold stmC; rw [HAl.out])
  have HRn := Lib.hid (RowS.nil (w := W0) (wx := w2.alloc (.cells #[.bool al, .slice A1 wn c1, .slice A2 an c2, .slice A3 rn c3] 25)) (HQ02.out.alloc _))
  have HNw := Lib.hid (new_cells w2 [.bool al, .slice A1 wn c1, .slice A2 an c2, .slice A3 rn c3] 25)
  have HRow := Lib.hid (World.ownsRow_nil (w2.alloc (.cells #[.bool al, .slice A1 wn c1, .slice A2 an c2, .slice A3 rn c3] 25)) W0.heap.size 25 4)
  go_upto_region 4 with (fail)
  go_upto_region 5 with (at_builtin; refine wpList_append_own (w := w2.alloc (.cells #[.bool al, .slice A1 wn c1, .slice A2 an c2, .slice A3 rn c3] 25)) rfl (.tmp 25) (.tmp 27) 22 rfl W0.heap.size 25 ti _ 4 80 Tryd.underlying22 hi hz0 hz1 hz2 rfl (by decide) (.slice none 0 0) 0 [] rfl HRow.out ⟨w2.heap.size, 0, none⟩ 1 1 [.bool al, .slice A1 wn c1, .slice A2 an c2, .slice A3 rn c3] rfl rfl HNw.out (by simp [Value.oneCell']) (by decide) (by decide) HRn.out.2.size ?_)
  intro v3 w3 hown3 hgrow3 _
  have hrs3 : RowS W0 w3 v3 [s] := RowS.push (L := []) (cells := []) HRow.out rfl HRn.out.2 hgrow3 (by rw [← HSt0.out]; exact hown3) (HSm.out.q HQ0.out)
  obtain ⟨A4, c4, hv3⟩ := row_form' hown3
  have hv3 : v3 = .slice A4 1 c4 := hv3
  subst hv3
  have HRS3 := Lib.hid hrs3
  clear hown3 hgrow3 hrs3 HNw HRow HRn y0 y1 y2 y3
  go_wp2_with fail
  have HC1 : Hid (DownV l.length (.int .i64 ((l.length : Int) - 1))) := Lib.hid (by
    unfold DownV
    by_cases h : l.length = 0
    · left; exact ⟨h, by rw [h]; rfl⟩
    · right; exact ⟨l.length - 1, by omega, by congr 1; omega⟩)
  go_loopg [13, 14] (l.length + 1) (fun gk o i wx => ∃ (k : Nat) (A' : Option Addr) (c' : Nat), k < gk ∧ k ≤ l.length ∧ DownV k i ∧ o = .slice A' (1 + (l.length - k)) c' ∧ Hid (RowS W0 wx (.slice A' (1 + (l.length - k)) c') ([s] ++ (l.drop k).reverse)))
  case atStart => exact ⟨l.length, A4, c4, by omega, by omega, HC1.out, by simp, Lib.hid (by simpa using HRS3.out)⟩
  case round =>
    obtain ⟨k, A', c', hg, hk, hdn, rfl, HI⟩ := hrel
    rename World => wa
    obtain ⟨g', rfl⟩ : ∃ g', gk = g' + 1 := ⟨gk - 1, by omega⟩
    rcases hdn with ⟨rfl, rfl⟩ | ⟨j, rfl, rfl⟩
    case' inr =>
      obtain ⟨g, off, va, vb, vc, rfl, hsv, x0, x1, x2, x3⟩ : ∃ g off va vb vc, A = some ⟨g, off, none⟩ ∧ StmV W0 (gSt l j) va vb vc ∧ W0.cell? ⟨g, off + j * 4, none⟩ = some (.bool (gSt l j).allow) ∧ W0.cell? ⟨g, off + j * 4 + 1, none⟩ = some va ∧ W0.cell? ⟨g, off + j * 4 + 2, none⟩ = some vb ∧ W0.cell? ⟨g, off + j * 4 + 3, none⟩ = some vc := by
        obtain ⟨A0, c0, e0, -, -, h0⟩ := HV0.out
        cases e0
        exact h0 j (by omega)
      obtain ⟨B1, d1, rfl⟩ := hsv.1.slice
      obtain ⟨B2, d2, rfl⟩ := hsv.2.1.slice
      obtain ⟨B3, d3, rfl⟩ := hsv.2.2.slice
      have hqa := HI.out.2
      replace x0 := hqa.cell x0
      replace x1 := hqa.cell x1
      replace x2 := hqa.cell x2
      replace x3 := hqa.cell x3
      obtain ⟨sj, hsj⟩ : ∃ sj, gSt l j = sj := ⟨_, rfl⟩
      rw [hsj] at hsv x0 x1 x2 x3
      obtain ⟨b0, hb0⟩ : ∃ b0, sj.allow = b0 := ⟨_, rfl⟩
      obtain ⟨n1, hn1⟩ : ∃ n, sj.who.length = n := ⟨_, rfl⟩
      obtain ⟨n2, hn2⟩ : ∃ n, sj.acts.length = n := ⟨_, rfl⟩
      obtain ⟨n3, hn3⟩ : ∃ n, sj.ress.length = n := ⟨_, rfl⟩
      rw [hb0] at x0
      rw [hn1, hn2, hn3] at hsv
      rw [hn1] at x1
      rw [hn2] at x2
      rw [hn3] at x3
      have HSj : Hid (gSt l j = sj ∧ [Value.bool b0, .slice B1 n1 d1, .slice B2 n2 d2, .slice B3 n3 d3] = stmC sj (.slice B1 n1 d1) (.slice B2 n2 d2) (.slice B3 n3 d3) ∧ StmV W0 sj (.slice B1 n1 d1) (.slice B2 n2 d2) (.slice B3 n3 d3)) := Lib.hid ⟨hsj, by unfold stmC; rw [hb0], hsv⟩
      have HIq := Lib.hid (HI.out.q ((Q.refl wa).alloc (.cells #[.bool b0, .slice B1 n1 d1, .slice B2 n2 d2, .slice B3 n3 d3] 25)))
      have hjl : j < l.length := by omega
      have hdj : decide (j < l.length) = true := by simpa using hjl
      obtain ⟨M, hM⟩ : ∃ M, 1 + (l.length - (j + 1)) = M := ⟨_, rfl⟩
      have HMl : Hid (([s] ++ (l.drop (j + 1)).reverse).length = M) := Lib.hid (by simp; omega)
      have HMn : Hid (M + 1 = 1 + (l.length - j)) := Lib.hid (by omega)
      have hMb : M ≤ 1100001 := by have := HLn.out; omega
      rw [hM] at HIq ⊢
      clear hsj hsv hb0 hn1 hn2 hn3 HI hqa hM hl
      obtain ⟨⟨cells, hrow, hkv⟩, hqy⟩ := HIq.out
      rw [HMl.out] at hrow
      have HRow := Lib.hid hrow
      have HKv := Lib.hid hkv
      have HQy := Lib.hid hqy
      have HNw := Lib.hid (new_cells wa [.bool b0, .slice B1 n1 d1, .slice B2 n2 d2, .slice B3 n3 d3] 25)
      clear hrow hkv hqy HIq
      go_upto_region 8 with (fail)
      go_wp2_with (at_builtin; refine wpList_append_own (w := wa.alloc (.cells #[.bool b0, .slice B1 n1 d1, .slice B2 n2 d2, .slice B3 n3 d3] 25)) rfl (.tmp 36) (.tmp 41) 22 rfl W0.heap.size 25 ti _ 4 80 Tryd.underlying22 hi hz0 hz1 hz2 rfl (by decide) (.slice A' M c') M cells rfl HRow.out ⟨wa.heap.size, 0, none⟩ 1 1 [.bool b0, .slice B1 n1 d1, .slice B2 n2 d2, .slice B3 n3 d3] rfl rfl HNw.out (by simp [Value.oneCell']) (by unfold maxLen; omega) (by omega) HQy.out.size ?_)
      intro v' w' hown hgrow _
      have hrs : RowS W0 w' v' ([s] ++ (l.drop j).reverse) := by
        rw [drop_rev l j hjl, HSj.out.1, ← List.append_assoc]
        exact RowS.push (by rw [HMl.out]; exact HRow.out) HKv.out HQy.out hgrow (by rw [HMl.out, ← HSj.out.2.1]; exact hown) HSj.out.2.2
      obtain ⟨A5, c5, hv'⟩ := row_form' hown
      rw [HMn.out] at hv'
      subst hv'
      have HN : Hid (RowS W0 w' (.slice A5 (1 + (l.length - j)) c5) ([s] ++ (l.drop j).reverse)) := Lib.hid hrs
      have HDn : Hid (DownV j (.int .i64 ((j : Int) - 1))) := Lib.hid (by
        unfold DownV
        cases j with
        | zero => left; exact ⟨rfl, rfl⟩
        | succ j => right; exact ⟨j, rfl, by congr 1; omega⟩)
      clear hrs hgrow hown x0 x1 x2 x3 HRow HKv HNw
      go_wp2_with fail
      go_roundg g'
      case measure => omega
      case rel => exact ⟨j, A5, c5, by omega, by omega, HDn.out, rfl, HN⟩
    case inl =>
      have HI1 : Hid (RowS W0 wa (.slice A' (1 + l.length) c') (s :: l.reverse)) := Lib.hid HI.out
      have el : 1 + (l.length - 0) = 1 + l.length := rfl
      obtain ⟨m1, hm1⟩ : ∃ m, 1 + l.length = m := ⟨_, rfl⟩
      rw [el, hm1]
      rw [hm1] at HI1
      have HDm := Lib.hid (HDec.out (s :: l.reverse) _ wa HI1.out.read (cons_sh (rev_sh HSh.out) HSs.out))
      rw [HBv.out] at HDm
      have HQa := Lib.hid HI1.out.2
      clear HI el
      go_wp2_with fail
      refine HDm.out.mono ?_
      rintro e w5 ⟨rfl, hq5⟩
      have HQ5 := Lib.hid (HQa.out.trans hq5)
      have HR5 := Lib.hid (HQ5.out.block HR0.out)
      clear hq5 HDm HI1
      have y0 : w5.cell? ⟨N, 0, none⟩ = some (.bool al) := by rw [cell_of_row _ _ _ _ _ _ HR5.out]; rfl
      have y1 : w5.cell? ⟨N, 1, none⟩ = some (.slice A1 wn c1) := by rw [cell_of_row _ _ _ _ _ _ HR5.out]; rfl
      have y2 : w5.cell? ⟨N, 2, none⟩ = some (.slice A2 an c2) := by rw [cell_of_row _ _ _ _ _ _ HR5.out]; rfl
      have y3 : w5.cell? ⟨N, 3, none⟩ = some (.slice A3 rn c3) := by rw [cell_of_row _ _ _ _ _ _ HR5.out]; rfl
      have hr6 := heap_alloc_new w5 (.cells #[.bool al, .slice A1 wn c1, .slice A2 an c2, .slice A3 rn c3] 25)
      obtain ⟨W6, hW6⟩ : ∃ W6, w5.alloc (.cells #[.bool al, .slice A1 wn c1, .slice A2 an c2, .slice A3 rn c3] 25) = W6 := ⟨_, rfl⟩
      have hq6 : Q w5 W6 := by rw [← hW6]; exact (Q.refl w5).alloc _
      obtain ⟨M6, hM6⟩ : ∃ M, w5.heap.size = M := ⟨_, rfl⟩
      rw [hW6, hM6] at hr6
      have HQ6 := Lib.hid (HQ5.out.trans hq6)
      have HD6 : Hid (Calls Tryd.prog 13 #[.slice (some ⟨M6, 0, none⟩) 1 1, .string ⟨user.toArray⟩, .string ⟨action.toArray⟩, .string ⟨resource.toArray⟩] W6 fun e w' => e = .returned (.int .i64 Ov) ∧ Q W6 w') := Lib.hid (by
        have := HDec.out [s] (.slice (some ⟨M6, 0, none⟩) 1 1) W6 (sts_one ((HSm.out.q HQ0.out).q HQ6.out) (by rw [HAl.out]; exact hr6)) (cons_sh (fun i hi => absurd hi (Nat.not_lt_zero i)) HSs.out)
        rw [HOv.out] at this; exact this)
      clear hq6 hr6
      go_wp2_with fail
      refine HD6.out.mono ?_
      rintro e w7 ⟨rfl, hq7⟩
      have HQ7 := Lib.hid (HQ6.out.trans hq7)
      clear hq7 HD6 hW6 hM6 y0 y1 y2 y3
      go_wp2_with fail
      have HC2 : Hid (DownV l.length (.int .i64 ((l.length : Int) - 1))) := Lib.hid (by
        unfold DownV
        by_cases h : l.length = 0
        · left; exact ⟨h, by rw [h]; rfl⟩
        · right; exact ⟨l.length - 1, by omega, by congr 1; omega⟩)
      go_loopg [17, 18] (l.length + 1) (fun gk o i wx => ∃ (k : Nat) (A' : Option Addr) (c' : Nat), k < gk ∧ k ≤ l.length ∧ DownV k i ∧ o = .slice A' (l.length - k) c' ∧ Hid (RowS W0 wx (.slice A' (l.length - k) c') (l.drop k).reverse))
      case atStart => exact ⟨l.length, none, 0, by omega, by omega, HC2.out, by simp, Lib.hid (by simpa using (RowS.nil HQ7.out))⟩
      case round =>
        obtain ⟨k, A2', c2', hg, hk, hdn, rfl, HI⟩ := hrel
        rename World => wb
        obtain ⟨g', rfl⟩ : ∃ g', gk = g' + 1 := ⟨gk - 1, by omega⟩
        rcases hdn with ⟨rfl, rfl⟩ | ⟨j, rfl, rfl⟩
        case' inr =>
          obtain ⟨g, off, va, vb, vc, rfl, hsv, x0, x1, x2, x3⟩ : ∃ g off va vb vc, A = some ⟨g, off, none⟩ ∧ StmV W0 (gSt l j) va vb vc ∧ W0.cell? ⟨g, off + j * 4, none⟩ = some (.bool (gSt l j).allow) ∧ W0.cell? ⟨g, off + j * 4 + 1, none⟩ = some va ∧ W0.cell? ⟨g, off + j * 4 + 2, none⟩ = some vb ∧ W0.cell? ⟨g, off + j * 4 + 3, none⟩ = some vc := by
            obtain ⟨A0, c0, e0, -, -, h0⟩ := HV0.out
            cases e0
            exact h0 j (by omega)
          obtain ⟨B1, d1, rfl⟩ := hsv.1.slice
          obtain ⟨B2, d2, rfl⟩ := hsv.2.1.slice
          obtain ⟨B3, d3, rfl⟩ := hsv.2.2.slice
          have hqa := HI.out.2
          replace x0 := hqa.cell x0
          replace x1 := hqa.cell x1
          replace x2 := hqa.cell x2
          replace x3 := hqa.cell x3
          obtain ⟨sj, hsj⟩ : ∃ sj, gSt l j = sj := ⟨_, rfl⟩
          rw [hsj] at hsv x0 x1 x2 x3
          obtain ⟨b0, hb0⟩ : ∃ b0, sj.allow = b0 := ⟨_, rfl⟩
          obtain ⟨n1, hn1⟩ : ∃ n, sj.who.length = n := ⟨_, rfl⟩
          obtain ⟨n2, hn2⟩ : ∃ n, sj.acts.length = n := ⟨_, rfl⟩
          obtain ⟨n3, hn3⟩ : ∃ n, sj.ress.length = n := ⟨_, rfl⟩
          rw [hb0] at x0
          rw [hn1, hn2, hn3] at hsv
          rw [hn1] at x1
          rw [hn2] at x2
          rw [hn3] at x3
          have HSj : Hid (gSt l j = sj ∧ [Value.bool b0, .slice B1 n1 d1, .slice B2 n2 d2, .slice B3 n3 d3] = stmC sj (.slice B1 n1 d1) (.slice B2 n2 d2) (.slice B3 n3 d3) ∧ StmV W0 sj (.slice B1 n1 d1) (.slice B2 n2 d2) (.slice B3 n3 d3)) := Lib.hid ⟨hsj, by unfold stmC; rw [hb0], hsv⟩
          have HIq := Lib.hid (HI.out.q ((Q.refl wb).alloc (.cells #[.bool b0, .slice B1 n1 d1, .slice B2 n2 d2, .slice B3 n3 d3] 25)))
          have hjl : j < l.length := by omega
          have hdj : decide (j < l.length) = true := by simpa using hjl
          obtain ⟨M, hM⟩ : ∃ M, l.length - (j + 1) = M := ⟨_, rfl⟩
          have HMl : Hid (((l.drop (j + 1)).reverse).length = M) := Lib.hid (by simp; omega)
          have HMn : Hid (M + 1 = l.length - j) := Lib.hid (by omega)
          have hMb : M ≤ 1100001 := by have := HLn.out; omega
          rw [hM] at HIq ⊢
          clear hsj hsv hb0 hn1 hn2 hn3 HI hqa hM hl
          obtain ⟨⟨cells, hrow, hkv⟩, hqy⟩ := HIq.out
          rw [HMl.out] at hrow
          have HRow := Lib.hid hrow
          have HKv := Lib.hid hkv
          have HQy := Lib.hid hqy
          have HNw := Lib.hid (new_cells wb [.bool b0, .slice B1 n1 d1, .slice B2 n2 d2, .slice B3 n3 d3] 25)
          clear hrow hkv hqy HIq
          go_upto_region 15 with (fail)
          go_wp2_with (at_builtin; refine wpList_append_own (w := wb.alloc (.cells #[.bool b0, .slice B1 n1 d1, .slice B2 n2 d2, .slice B3 n3 d3] 25)) rfl (.tmp 61) (.tmp 66) 22 rfl W0.heap.size 25 ti _ 4 80 Tryd.underlying22 hi hz0 hz1 hz2 rfl (by decide) (.slice A2' M c2') M cells rfl HRow.out ⟨wb.heap.size, 0, none⟩ 1 1 [.bool b0, .slice B1 n1 d1, .slice B2 n2 d2, .slice B3 n3 d3] rfl rfl HNw.out (by simp [Value.oneCell']) (by unfold maxLen; omega) (by omega) HQy.out.size ?_)
          intro v' w' hown hgrow _
          have hrs : RowS W0 w' v' ((l.drop j).reverse) := by
            rw [drop_rev l j hjl, HSj.out.1]
            exact RowS.push (by rw [HMl.out]; exact HRow.out) HKv.out HQy.out hgrow (by rw [HMl.out, ← HSj.out.2.1]; exact hown) HSj.out.2.2
          obtain ⟨A5, c5, hv'⟩ := row_form' hown
          rw [HMn.out] at hv'
          subst hv'
          have HN : Hid (RowS W0 w' (.slice A5 (l.length - j) c5) ((l.drop j).reverse)) := Lib.hid hrs
          have HDn : Hid (DownV j (.int .i64 ((j : Int) - 1))) := Lib.hid (by
            unfold DownV
            cases j with
            | zero => left; exact ⟨rfl, rfl⟩
            | succ j => right; exact ⟨j, rfl, by congr 1; omega⟩)
          clear hrs hgrow hown x0 x1 x2 x3 HRow HKv HNw
          go_wp2_with fail
          go_roundg g'
          case measure => omega
          case rel => exact ⟨j, A5, c5, by omega, by omega, HDn.out, rfl, HN⟩
        case inl =>
          have HI1 : Hid (RowS W0 wb (.slice A2' l.length c2') l.reverse) := Lib.hid HI.out
          have el : l.length - 0 = l.length := rfl
          rw [el]
          have HDm := Lib.hid (HDec.out l.reverse _ wb HI1.out.read (rev_sh HSh.out))
          rw [decide_rev, HAv.out] at HDm
          have HQb := Lib.hid HI1.out.2
          have HR8 := Lib.hid (HQb.out.block HR0.out)
          have HFin : Hid (∀ w9, Q wb w9 → Q w w9 ∧ w9.cell? ⟨N, 0, none⟩ = some (.bool al)) := Lib.hid (fun w9 h => ⟨HQ0.out.trans (HQb.out.trans h), by rw [cell_of_row _ _ _ _ _ _ (h.block HR8.out)]; rfl⟩)
          have hmx : (Bv == max Av Ov) = true := by rw [HMax.out]; simp
          have hav : (Av == Av) = true := by simp
          obtain ⟨hov, ho1, ho2⟩ := HOne.out
          clear HI el HI1
          rcases hov with hov | hov | hov
          case' inr.inl => have hal := ho1 hov; subst hal
          case' inr.inr => have hal := ho2 hov; subst hal
          all_goals
            subst hov
            clear ho1 ho2 HMax HOne
            go_wp2_with fail
            refine HDm.out.mono ?_
            rintro e w9 ⟨rfl, hq9⟩
            have HF9 := Lib.hid (HFin.out w9 hq9).1
            have y0 := (HFin.out w9 hq9).2
            clear hq9 HDm HFin hmx
            go_wp2_with fail
            go_ret
            exact ⟨rfl, HF9.out⟩
end Go.Proofs.YtlhhiiemojhjdaaDoor
/- Statements that came in, opened. -/
set_option linter.unusedVariables false
namespace Go.Proofs.YtlhhiiemojhjdaaDoor
open Go Go.RowKit Go.ChangeShapes Go.WideShapes Go.Deep
section
variable {H : Type} {enc : TypeId × Value → H} {W : World} {hd : Bool}
theorem bulk_posP (d : DataW H) : 1 ≤ Rows.uptoBulk d := by
  cases d with
  | lit l => cases l <;> simp [Rows.uptoBulk]
  | _ => simp [Rows.uptoBulk]
theorem bulk_lenP (l : List (DataW H)) : l.length ≤ Rows.uptoBulkAll l := by
  induction l with
  | nil => simp
  | cons a r ih => have := bulk_posP a; simp only [Rows.uptoBulkAll, List.length_cons]; omega
/-- A statement of small bulk. -/
def BigS (N : Nat) (s : StmtD) : Prop := (∀ n ∈ s.who, n.length ≤ N) ∧ (∀ n ∈ s.acts, n.length ≤ N) ∧ ∀ n ∈ s.ress, n.length ≤ N
theorem gL_memP (l : List Txt) (i : Nat) (h : i < l.length) : gL l i ∈ l := by
  have : gL l i = l[i] := by simp [gL, List.getD, h]
  rw [this]; exact List.getElem_mem h
theorem BigS.sh {N : Nat} {s : StmtD} (h : BigS N s) (hN : N ≤ 140737488355328) : ShS s :=
  ⟨fun i hi => Nat.le_trans (h.2.1 _ (gL_memP _ i hi)) hN, fun i hi => Nat.le_trans (h.2.2 _ (gL_memP _ i hi)) hN⟩
theorem stm_in {N fuel : Nat} {cs : List Value} {y : DataW H × List MemPlace} (h : DataW.trod enc Tryd.prog W 0 (fun _ => true) hd fuel 25 cs = some y) (hN : Rows.uptoBulk y.1 ≤ N) :
    ∃ s va vb vc, cs = stmC s va vb vc ∧ StmV W s va vb vc ∧ BigS N s := by
  obtain ⟨y0, y1, y2, y3, n, hx, hl, g0, g1, g2, g3⟩ := trod_struct4 Tryd.underlying25 h
  have hc : Tryd.prog.cellsOf 25 = 4 := by kernel_rfl
  have c0 : Tryd.prog.cellsOf 4 = 1 := by kernel_rfl
  have c2 : Tryd.prog.cellsOf 23 = 1 := by kernel_rfl
  rw [hc] at hl
  obtain ⟨v0, v1, v2, v3, rfl⟩ := list4 hl
  simp only [c0, c2, List.drop_zero, List.drop_succ_cons, List.take_succ_cons, List.take_zero] at g0 g1 g2 g3
  rw [hx] at hN
  simp only [Rows.uptoBulk, Rows.uptoBulkAll] at hN
  obtain ⟨n1, h1, b1⟩ := names_in g1
  obtain ⟨n2, h2, b2⟩ := names_in g2
  obtain ⟨n3, h3, b3⟩ := names_in g3
  have hk : ∃ k, v0 = .bool k := by
    obtain ⟨k, e, _⟩ := DataW.trod_bool Tryd.underlying4 g0
    exact ⟨k, by simpa using e⟩
  obtain ⟨k, rfl⟩ := hk
  exact ⟨⟨k, n1, n2, n3⟩, v1, v2, v3, rfl, ⟨h1, h2, h3⟩, fun q hq => by have := b1 q hq; omega, fun q hq => by have := b2 q hq; omega, fun q hq => by have := b3 q hq; omega⟩
theorem sts_in {N fuel : Nat} {c : Value} {y : DataW H × List MemPlace} (h : DataW.trod enc Tryd.prog W 0 (fun _ => true) hd fuel 22 [c] = some y) (hN : Rows.uptoBulk y.1 ≤ N) :
    ∃ l, StsV W c l ∧ l.length ≤ N ∧ ∀ i, i < l.length → BigS N (gSt l i) := by
  have hc : Tryd.prog.cellsOf 25 = 4 := by kernel_rfl
  rcases open_slice Tryd.underlying22 h with ⟨hcs, hx⟩ | ⟨a, len, cap, m, n', D, Pl, hcs, _, hlc, hm, hmm, hy, hcell⟩
  · simp at hcs
    subst hcs
    exact ⟨[], ⟨none, 0, rfl, Nat.le_refl _, by omega, fun i hi => absurd hi (Nat.not_lt_zero i)⟩, Nat.zero_le _, fun i hi => absurd hi (Nat.not_lt_zero i)⟩
  · simp at hcs
    subst hcs
    simp only [if_true] at hmm
    subst hmm
    rw [hc] at hcell
    rw [hy] at hN
    simp only [Rows.uptoBulk] at hN
    have hlen := bulk_lenP (H := H) ((List.range len).map D)
    rw [List.length_map, List.length_range] at hlen
    obtain ⟨p, hp⟩ := choose_lt (α := StmtD × Value × Value × Value) (p := fun i q => i < len → (∀ k v, (stmC q.1 q.2.1 q.2.2.1 q.2.2.2)[k]? = some v → W.cell? ((a.add (i * 4)).add k) = some v) ∧ StmV W q.1 q.2.1 q.2.2.1 q.2.2.2 ∧ BigS N q.1) (fun i (hi : i < m) => by
      by_cases hil : i < len
      · obtain ⟨cs', h1, h2⟩ := hcell i hi
        obtain ⟨_, hlen, hcc⟩ := World.cells?_some h1
        have hbi := bulkAll (H := H) (List.mem_map.2 ⟨i, by simpa using hil, rfl⟩ : D i ∈ (List.range len).map D)
        obtain ⟨s, va, vb, vc, rfl, hj, hb⟩ := stm_in (N := N) h2 (by show Rows.uptoBulk (D i) ≤ N; omega)
        refine ⟨(s, va, vb, vc), fun _ => ⟨fun k v hk => ?_, hj, hb⟩⟩
        have hk4 : k < 4 := by have := (List.getElem?_eq_some_iff.1 hk).1; exact this
        rw [hcc k hk4]; exact hk
      · exact ⟨(default, .slice none 0 0, .slice none 0 0, .slice none 0 0), fun h => absurd h hil⟩)
    have hg : ∀ i, i < len → gSt ((List.range len).map (fun i => (p i).1)) i = (p i).1 := fun i hi => by simp [gSt, List.getD, hi]
    refine ⟨(List.range len).map (fun i => (p i).1), ⟨some a, m, by simp, by simp; omega, by unfold maxLen at hm; simpa using hm, fun i hi => ?_⟩, by simp; omega, fun i hi => ?_⟩
    · have hi' : i < len := by simpa using hi
      have h00 := (hp 0 (by omega) (by omega)).1 0 _ rfl
      rw [Nat.zero_mul] at h00
      have ea : (a.add 0).add 0 = a := by simp [Addr.add]
      rw [ea] at h00
      have hsp := spot_none h00
      obtain ⟨g, off, spot⟩ := a
      simp only at hsp
      subst hsp
      obtain ⟨q1, q2, _⟩ := hp i (by omega) hi'
      refine ⟨g, off, (p i).2.1, (p i).2.2.1, (p i).2.2.2, rfl, by rw [hg i hi']; exact q2, ?_, ?_, ?_, ?_⟩
      · have := q1 0 _ rfl; rw [add_off, add_off] at this; rw [hg i hi']; exact this
      · have := q1 1 _ rfl; rw [add_off, add_off] at this; exact this
      · have := q1 2 _ rfl; rw [add_off, add_off] at this; exact this
      · have := q1 3 _ rfl; rw [add_off, add_off] at this; exact this
    · have hi' : i < len := by simpa using hi
      rw [hg i hi']
      exact (hp i (by omega) hi').2.2
set_option maxRecDepth 100000 in
/-- A statement that is handed in. -/
theorem stm_open {N b0 : Nat} {v : Value} {d : DataW H} {q : List MemPlace} (hv : Value.okWide Tryd.prog W .any b0 25 v) (h : DataW.Trod enc Tryd.prog W 0 (fun _ => true) hd 25 v d q) (hB : Rows.uptoBulk d ≤ N) :
    ∃ s va vb vc, v = .agg #[.bool s.allow, va, vb, vc] ∧ StmV W s va vb vc ∧ BigS N s := by
  obtain ⟨cs, rfl, hsz⟩ := okWide_struct Tryd.underlying25 hv
  obtain ⟨fuel, hf⟩ := h
  obtain ⟨s, va, vb, vc, e, h1, h2⟩ := stm_in hf hB
  refine ⟨s, va, vb, vc, ?_, h1, h2⟩
  have e2 : cs = (stmC s va vb vc).toArray := by
    rw [← e]; simp [Value.cells]
  rw [e2]; rfl
set_option maxRecDepth 100000 in
/-- Statements that are handed in. -/
theorem sts_open {N b0 : Nat} {v : Value} {d : DataW H} {q : List MemPlace} (hv : Value.okWide Tryd.prog W .any b0 22 v) (h : DataW.Trod enc Tryd.prog W 0 (fun _ => true) hd 22 v d q) (hB : Rows.uptoBulk d ≤ N) :
    ∃ l, StsV W v l ∧ l.length ≤ N ∧ ∀ i, i < l.length → BigS N (gSt l i) := by
  obtain ⟨A, n, c, rfl⟩ := okWide_slice Tryd.underlying22 hv
  obtain ⟨fuel, hf⟩ := h
  exact sts_in hf hB
end
end Go.Proofs.YtlhhiiemojhjdaaDoor
/- Law 18: PolicyMore, of what came in. -/
set_option linter.unusedVariables false
namespace Go.Proofs.YtlhhiiemojhjdaaDoor
open Go Go.RowKit
theorem PolicyMore_any (l : List StmtD) (s : StmtD) (user action resource : Txt) (w : World) (v va vb vc : Value) (hv : StsV w v l) (hs : StmV w s va vb vc) (hu : UT w) (hl : l.length ≤ 1048576) (hb : ∀ i, i < l.length → BigS 1048576 (gSt l i)) (hbs : BigS 1048576 s) (_h1 : user.length ≤ 1048576) (h2 : action.length ≤ 1048576) (h3 : resource.length ≤ 1048576) :
    Calls Tryd.prog 3 #[v, .agg #[.bool s.allow, va, vb, vc], .string ⟨user.toArray⟩, .string ⟨action.toArray⟩, .string ⟨resource.toArray⟩] w fun e w' => e = .returned (.bool true) ∧ Q w w' := by
  obtain ⟨A1, c1, rfl⟩ := hs.1.slice
  obtain ⟨A2, c2, rfl⟩ := hs.2.1.slice
  obtain ⟨A3, c3, rfl⟩ := hs.2.2.slice
  exact PolicyMore_walk l s A1 A2 A3 c1 c2 c3 user action resource v w hu hv hs (by omega) (fun i hi => (hb i hi).sh (by decide)) (hbs.sh (by decide)) (by omega) (by omega)
end Go.Proofs.YtlhhiiemojhjdaaDoor
/- The document's Match. -/
set_option linter.unusedVariables false
set_option linter.unusedSimpArgs false
namespace Go.Proofs.YtlhhiiemojhjdaaDoor
open Go Go.RowKit
/-- A row of answers, of which so many are known. -/
def rowN (f : Nat → Bool) (k n : Nat) : List Value := (List.range n).map fun j => .bool (if j < k then f j else false)
theorem rowN_len (f : Nat → Bool) (k n : Nat) : (rowN f k n).length = n := by simp [rowN]
theorem rowN_get (f : Nat → Bool) (k n j : Nat) (hj : j < n) : (rowN f k n)[j]? = some (.bool (if j < k then f j else false)) := by simp [rowN, hj]
theorem rowN_set (f : Nat → Bool) (k n : Nat) (hk : k < n) : (rowN f k n).set k (.bool (f k)) = rowN f (k + 1) n := by
  apply List.ext_getElem?
  intro j
  by_cases hj : j < n
  · rw [rowN_get f (k + 1) n j hj]
    by_cases e : k = j
    · subst e
      rw [List.getElem?_set_self (by rw [rowN_len]; exact hk), if_pos (by omega)]
    · rw [List.getElem?_set_ne e, rowN_get f k n j hj]
      by_cases h1 : j < k
      · rw [if_pos h1, if_pos (by omega)]
      · rw [if_neg h1, if_neg (by omega)]
  · rw [List.getElem?_eq_none (by rw [List.length_set, rowN_len]; omega), List.getElem?_eq_none (by rw [rowN_len]; omega)]
theorem rowN_zero (f : Nat → Bool) (n : Nat) : (madeCells #[.bool false] n) = (rowN f 0 n).toArray := by
  apply Array.ext'
  rw [toList_madeCells_one]
  simp only [rowN, Nat.not_lt_zero, if_false]
  apply List.ext_getElem?
  intro j
  by_cases hj : j < n <;> simp [hj, List.getElem?_replicate]
theorem rowN_any (f g : Nat → Bool) (n : Nat) : rowN f 0 n = rowN g 0 n := by simp [rowN]
theorem rowN_full (f : Nat → Bool) (k n : Nat) (h : ∀ j, k ≤ j → j < n → f j = false) : rowN f k n = rowN f n n := by
  apply List.ext_getElem?
  intro j
  by_cases hj : j < n
  · rw [rowN_get f k n j hj, rowN_get f n n j hj, if_pos hj]
    by_cases hk : j < k
    · rw [if_pos hk]
    · rw [if_neg hk, h j (by omega) hj]
  · rw [List.getElem?_eq_none (by rw [rowN_len]; omega), List.getElem?_eq_none (by rw [rowN_len]; omega)]
theorem rowN_skip (f : Nat → Bool) (k n : Nat) (h : f k = false) : rowN f k n = rowN f (k + 1) n := by
  apply List.ext_getElem?
  intro j
  by_cases hj : j < n
  · rw [rowN_get f k n j hj, rowN_get f (k + 1) n j hj]
    by_cases e : j = k
    · subst e
      rw [if_neg (by omega), if_pos (by omega), h]
    · by_cases hk : j < k
      · rw [if_pos hk, if_pos (by omega)]
      · rw [if_neg hk, if_neg (by omega)]
  · rw [List.getElem?_eq_none (by rw [rowN_len]; omega), List.getElem?_eq_none (by rw [rowN_len]; omega)]
/-- The block holds the row. -/
def RowN (w : World) (b : Nat) (f : Nat → Bool) (k n : Nat) : Prop := w.heap[b]? = some (.cells (rowN f k n).toArray 4 (0, 0))
theorem RowN.cell {w : World} {b k n : Nat} {f : Nat → Bool} (h : RowN w b f k n) {j : Nat} (hj : j < n) : w.cell? ⟨b, j, none⟩ = some (.bool (if j < k then f j else false)) := by
  rw [cell_of_row _ _ _ _ _ _ h, ← Array.getElem?_toList]
  exact rowN_get f k n j hj
theorem RowN.set {w : World} {b k n : Nat} {f : Nat → Bool} (h : RowN w b f k n) (hk : k < n) : RowN (w.setCell ⟨b, k, none⟩ (.bool (f k))) b f (k + 1) n := by
  unfold RowN
  rw [heap_setCell_any _ b k _ _ _ _ h]
  rw [show (rowN f k n).toArray.setIfInBounds k (.bool (f k)) = ((rowN f k n).set k (.bool (f k))).toArray by simp, rowN_set f k n hk]
theorem RowN.keep {w : World} {b k n c i : Nat} {f : Nat → Bool} {v : Value} (h : RowN w b f k n) (hc : c ≠ b) : RowN (w.setCell ⟨c, i, none⟩ v) b f k n := by
  unfold RowN World.setCell
  simp only [Array.getElem?_modify]
  rw [if_neg hc]; exact h
theorem u8_eqP (v x : UInt8) : ((v.toNat : Int) == (x.toNat : Int)) = (v == x) := by
  by_cases h : v = x
  · subst h; simp
  · have h1 : ¬ ((v.toNat : Int) = (x.toNat : Int)) := fun e => h (UInt8.toNat_inj.1 (by omega))
    have e1 : ((v.toNat : Int) == (x.toNat : Int)) = false := by simpa using h1
    have e2 : (v == x) = false := by simpa using h
    rw [e1, e2]
def dpF (P S : Txt) (i k : Nat) : Bool := matL (P.take i) (S.take k)
theorem dp_first (P S : Txt) (k : Nat) : dpF P S 0 k = decide (S.take k = []) := by
  unfold dpF
  rw [List.take_zero, matL]
  cases S.take k <;> rfl
theorem dp_starB (P S : Txt) {i k : Nat} (hi : i < P.length) (hk : k ≤ S.length) (hc : gB P i = 42) : dpF P S (i + 1) k = (dpF P S i k || (decide (0 < k) && dpF P S (i + 1) (k - 1))) := by
  have h := dp_star P S hi hk hc
  unfold dpF
  cases h1 : matL (P.take (i + 1)) (S.take k) with
  | true =>
    rcases h.1 h1 with h2 | ⟨h2, h3⟩
    · rw [h2]; rfl
    · rw [h3]; simp [h2]
  | false =>
    have h2 : ¬ matL (P.take i) (S.take k) = true := fun e => by rw [h.2 (.inl e)] at h1; cases h1
    have h3 : ¬ (0 < k ∧ matL (P.take (i + 1)) (S.take (k - 1)) = true) := fun e => by rw [h.2 (.inr e)] at h1; cases h1
    cases h4 : matL (P.take i) (S.take k) with
    | true => exact absurd h4 h2
    | false =>
      by_cases hk0 : 0 < k
      · have : matL (P.take (i + 1)) (S.take (k - 1)) = false := by
          cases h5 : matL (P.take (i + 1)) (S.take (k - 1)) with
          | true => exact absurd ⟨hk0, h5⟩ h3
          | false => rfl
        rw [this]; simp
      · simp [hk0]
theorem dp_byteB (P S : Txt) {i k : Nat} (hi : i < P.length) (hk : k ≤ S.length) (hc : gB P i ≠ 42) : dpF P S (i + 1) k = (decide (0 < k) && (dpF P S i (k - 1) && fitB (gB P i) (gB S (k - 1)))) := by
  have h := dp_byte P S hi hk hc
  unfold dpF
  cases h1 : matL (P.take (i + 1)) (S.take k) with
  | true =>
    obtain ⟨h2, h3, h4⟩ := h.1 h1
    rw [h3, h4]; simp [h2]
  | false =>
    by_cases hk0 : 0 < k
    · cases h2 : matL (P.take i) (S.take (k - 1)) with
      | false => simp
      | true =>
        cases h3 : fitB (gB P i) (gB S (k - 1)) with
        | false => simp
        | true => rw [h.2 ⟨hk0, h2, h3⟩] at h1; cases h1
    · simp [hk0]
theorem dp_lastB (P S : Txt) : dpF P S P.length S.length = matL P S := by unfold dpF; rw [List.take_length, List.take_length]
set_option maxRecDepth 100000 in
set_option maxHeartbeats 8000000 in
theorem RMatch_any (P S : Txt) (w : World) (hp : P.length ≤ 140737488355328) (hs : S.length ≤ 1000000000) : Calls Tryd.prog 17 #[.string ⟨P.toArray⟩, .string ⟨S.toArray⟩] w fun e w' => e = .returned (.bool (matL P S)) ∧ Q w w' := by
  obtain ⟨n, hn⟩ : ∃ n, S.length + 1 = n := ⟨_, rfl⟩
  have hn' : ((S.length : Int) + 1) = (n : Int) := by omega
  have hmk : ∀ w, (Instr.makeSlice 64 (.int .i64 ((S.length : Int) + 1)) (.int .i64 ((S.length : Int) + 1))).run Tryd.prog w = .ok (.slice (some ⟨w.heap.size, 0, none⟩) n n) (w.alloc (.cells (rowN (fun _ => false) 0 n).toArray 4)) := by
    intro w
    rw [hn', ← rowN_zero]
    exact run_make_row' _ _ (.bool false) 1 Tryd.underlying64 (by kernel_rfl) rfl .i64 .i64 n (by omega) (by omega) w
  have HN := Lib.hid hn
  have hn0 : 0 < n := by omega
  have hnb : n ≤ 1000000001 := by omega
  clear hn hn'
  go_enter Tryd.func17, Tryd.ntmps17
  go_upto_region 2 with (fail)
  obtain ⟨W, hW⟩ : ∃ W, w.alloc (.cells (rowN (fun _ => false) 0 n).toArray 4) = W := ⟨_, rfl⟩
  have hr0 : RowN W w.heap.size (dpF P S 0) 0 n := by rw [← hW]; unfold RowN; rw [rowN_any (dpF P S 0) (fun _ => false)]; exact heap_alloc_new w _
  have hqW : Q w W := by rw [← hW]; exact (Q.refl w).alloc _
  obtain ⟨b, hb⟩ : ∃ b, w.heap.size = b := ⟨_, rfl⟩
  rw [hb] at hr0
  rw [hW, hb]
  have x0 := hr0.cell (j := 0) hn0
  have f0 := frozen_of_row W b 0 _ _ hr0
  have hr1 : RowN (W.setCell ⟨b, 0, none⟩ (.bool true)) b (dpF P S 0) n n := by
    have h := hr0.set hn0
    have e : dpF P S 0 0 = true := by rw [dp_first]; simp
    rw [e] at h
    unfold RowN at h ⊢
    rw [← rowN_full (dpF P S 0) 1 n (fun j h1 h2 => by
      rw [dp_first]
      have hN := HN.out
      have : S.take j ≠ [] := fun e => by
        have := congrArg List.length e
        rw [List.length_take, List.length_nil] at this
        omega
      simpa using this)]
    exact h
  have HS0 : Hid (RowN (W.setCell ⟨b, 0, none⟩ (.bool true)) b (dpF P S 0) n n ∧ Q w (W.setCell ⟨b, 0, none⟩ (.bool true))) := Lib.hid ⟨hr1, hqW.setNew (by show w.heap.size ≤ b; omega) _⟩
  clear hr0 hr1 hqW hW hb
  have hdn : decide (0 < n) = true := by simpa using hn0
  go_wp2_with fail
  clear x0 f0 hdn
  go_loopw [5, 6] (fun s i wx => ∃ (I b : Nat), I ≤ P.length ∧ i = .int .i64 (I : Int) ∧ s = .slice (some ⟨b, 0, none⟩) n n ∧ Hid (RowN wx b (dpF P S I) n n ∧ Q w wx)) (fun _ i _ => P.length - (intOf i).toNat)
  case atStart => exact ⟨0, b, by omega, rfl, rfl, HS0⟩
  case round =>
    obtain ⟨I, b, hI, rfl, rfl, HI⟩ := hrel
    rename World => wa
    by_cases hlt : I < P.length
    · have hd : decide (I < P.length) = true := by simpa using hlt
      go_upto_region 7 with (fail)
      obtain ⟨W2, hW2⟩ : ∃ W2, wa.alloc (.cells (rowN (fun _ => false) 0 n).toArray 4) = W2 := ⟨_, rfl⟩
      have hr2 : RowN W2 wa.heap.size (dpF P S (I + 1)) 0 n := by rw [← hW2]; unfold RowN; rw [rowN_any (dpF P S (I + 1)) (fun _ => false)]; exact heap_alloc_new wa _
      have hq2 : Q wa W2 := by rw [← hW2]; exact (Q.refl wa).alloc _
      have hne : wa.heap.size ≠ b := by have := lt_of_heap HI.out.1; omega
      have hsz : w.heap.size ≤ wa.heap.size := HI.out.2.size
      obtain ⟨nb, hnb2⟩ : ∃ nb, wa.heap.size = nb := ⟨_, rfl⟩
      rw [hnb2] at hr2 hne hsz
      rw [hW2, hnb2]
      have HI2 : Hid (RowN W2 nb (dpF P S (I + 1)) 0 n ∧ RowN W2 b (dpF P S I) n n ∧ Q w W2) := Lib.hid ⟨hr2, hq2.block HI.out.1, HI.out.2.trans hq2⟩
      have HNe := Lib.hid hne
      have HSz := Lib.hid hsz
      clear hW2 hr2 hq2 hne hsz hnb2 HI
      go_wp2_with fail
      go_loopw [8] (fun i wx => ∃ K : Nat, K ≤ n ∧ i = .int .i64 (K : Int) ∧ Hid (RowN wx nb (dpF P S (I + 1)) K n ∧ RowN wx b (dpF P S I) n n ∧ Q w wx)) (fun i _ => n - (intOf i).toNat)
      case atStart => exact ⟨0, by omega, rfl, HI2⟩
      case round =>
        obtain ⟨K, hK, rfl, HJ⟩ := hrel
        rename World => wb
        by_cases hkn : K < n
        · have hKS : K ≤ S.length := by have := HN.out; omega
          have hdk : decide (K ≤ S.length) = true := by simpa using hKS
          have hdkn : decide (K < n) = true := by simpa using hkn
          obtain ⟨v, hv⟩ : ∃ v, gB P I = v := ⟨_, rfl⟩
          obtain ⟨h1, h2, h3⟩ := HJ.out
          have z0 := h1.cell (j := K) hkn
          have zf := frozen_of_row wb nb K _ _ h1
          rw [if_neg (by omega)] at z0
          have HSet : Hid (∀ (wx : World) r, dpF P S (I + 1) K = r → RowN wx nb (dpF P S (I + 1)) K n → RowN wx b (dpF P S I) n n → Q w wx → RowN (wx.setCell ⟨nb, K, none⟩ (.bool r)) nb (dpF P S (I + 1)) (K + 1) n ∧ RowN (wx.setCell ⟨nb, K, none⟩ (.bool r)) b (dpF P S I) n n ∧ Q w (wx.setCell ⟨nb, K, none⟩ (.bool r))) := Lib.hid (fun wx r hr g1 g2 g3 => by
            subst hr
            exact ⟨g1.set hkn, g2.keep HNe.out, g3.setNew (by show w.heap.size ≤ nb; exact HSz.out) _⟩)
          by_cases h42 : v = 42
          · subst h42
            have hdp := dp_starB P S hlt hKS hv
            have x0 := h2.cell (j := K) hkn
            rw [if_pos hkn] at x0
            obtain ⟨x, hx⟩ : ∃ x, dpF P S I K = x := ⟨_, rfl⟩
            rw [hx] at x0 hdp
            clear hx
            cases x with
            | true =>
              have HX := Lib.hid (HSet.out wb true hdp h1 h2 h3)
              clear h1 h2 h3 hdp HJ HSet
              go_wp2_with fail
              go_roundw
              case rel => exact ⟨K + 1, by omega, by go_num, HX⟩
              case measure => simp [intOf]; omega
            | false =>
              by_cases hk0 : 0 < K
              · have hd0 : decide (0 < K) = true := by simpa using hk0
                have x1 := h1.cell (j := K - 1) (by omega)
                rw [if_pos (by omega)] at x1
                obtain ⟨y, hy⟩ : ∃ y, dpF P S (I + 1) (K - 1) = y := ⟨_, rfl⟩
                rw [hy] at x1 hdp
                have HX := Lib.hid (HSet.out wb y (by rw [hdp, hd0]; simp) h1 h2 h3)
                clear h1 h2 h3 hdp HJ HSet hy
                go_wp2_with fail
                go_roundw
                case rel => exact ⟨K + 1, by omega, by go_num, HX⟩
                case measure => simp [intOf]; omega
              · have HX := Lib.hid (HSet.out wb false (by rw [hdp]; simp [hk0]) h1 h2 h3)
                have hd0 : decide (0 < K) = false := by simpa using hk0
                clear h1 h2 h3 hdp HJ HSet
                go_wp2_with fail
                go_roundw
                case rel => exact ⟨K + 1, by omega, by go_num, HX⟩
                case measure => simp [intOf]; omega
          · have h42i : ¬ (v.toNat : Int) = 42 := fun h => h42 (UInt8.toNat_inj.1 (by simpa using (by omega : v.toNat = 42)))
            have g42 : (((v.toNat : Int)) == 42) = false := by simpa using h42i
            have hdp := dp_byteB P S hlt hKS (by rw [hv]; exact h42)
            by_cases hk0 : 0 < K
            · have hd0 : decide (0 < K) = true := by simpa using hk0
              have x0 := h2.cell (j := K - 1) (by omega)
              rw [if_pos (by omega)] at x0
              obtain ⟨x, hx⟩ : ∃ x, dpF P S I (K - 1) = x := ⟨_, rfl⟩
              obtain ⟨c, hc⟩ : ∃ c, gB S (K - 1) = c := ⟨_, rfl⟩
              have hc1 : decide (K - 1 < S.length) = true := by simp; omega
              rw [hx] at x0 hdp
              rw [hv, hc, hd0, Bool.true_and] at hdp
              have HXv := Lib.hid hx
              have H3 := Lib.hid (⟨h1, h2, h3⟩ : _ ∧ _ ∧ _)
              clear hx
              cases x with
              | false =>
                have HDp : Hid (dpF P S (I + 1) K = false) := Lib.hid (by rw [hdp]; rfl)
                clear h1 h2 h3 hdp HJ h42
                haveI hne : Nonempty (SWA (fun W : World => W.cell? ⟨b, K - 1, none⟩ = some (.bool false))) := ⟨⟨wb, x0⟩⟩
                have k0 : ∀ m : SWA (fun W : World => W.cell? ⟨b, K - 1, none⟩ = some (.bool false)), m.val.cell? ⟨b, K - 1, none⟩ = some (.bool false) := fun m => m.property
                go_upto_region 13 with (fail)
                refine wp_plan_A (fun W : World => W.cell? ⟨b, K - 1, none⟩ = some (.bool false)) x0 [([0, 1, 2, 3, 4, 5, 6, 7, 8, 9, 10, 11, 12, 13, 14, 15, 16, 17, 18, 19, 20, 21, 22, 23], [24])] (by kernel_rfl) (by kernel_rfl) (fun c a d v w h => by cases d <;> exact h) ?_
                simp only [wpPlan, wpListK, List.map_cons, List.map_nil, Array.getD_eq_getD_getElem?, List.getElem?_toArray, List.getElem?_cons_succ, List.getElem?_cons_zero, Option.getD_some, Act.put, List.setIfInBounds_toArray, List.set_cons_succ, List.set_cons_zero]
                (repeat (go_big_quiet_step (fail)))
                refine wpQuiet_nil ?_
                intro KK hKK
                clear k0 hne
                obtain ⟨wd, hwd⟩ : ∃ wd, wb.drew = wd := ⟨_, rfl⟩
                have z1 : wd.cell? ⟨nb, K, none⟩ = some (.bool false) := by rw [← hwd]; exact z0
                have zf1 : wd.frozen? ⟨nb, K, none⟩ = false := by rw [← hwd]; exact zf
                have HX : Hid _ := Lib.hid (HSet.out wd false HDp.out (by rw [← hwd]; exact H3.out.1) (by rw [← hwd]; exact H3.out.2.1) (by rw [← hwd]; exact H3.out.2.2.drew))
                have hx1 := HX.out.2.1.cell (j := K - 1) (by omega)
                rw [if_pos (by omega), HXv.out] at hx1
                have HXc := Lib.hid hx1
                rw [hwd]
                clear hwd z0 zf x0 HSet H3 hx1
                go_wp2_with fail
                refine hKK.out _ _ ⟨⟨_, HXc.out⟩, rfl⟩ ?_
                clear hKK KK
                go_wp2_with fail
                go_roundw
                case rel => exact ⟨K + 1, by omega, by go_num, HX⟩
                case measure => simp [intOf]; omega
              | true =>
                by_cases h63 : v = 63
                · subst h63
                  have HDp : Hid (dpF P S (I + 1) K = true) := Lib.hid (by rw [hdp]; rfl)
                  clear h1 h2 h3 hdp HJ h42 h42i g42
                  haveI hne : Nonempty (SWA (fun W : World => W.cell? ⟨b, K - 1, none⟩ = some (.bool true))) := ⟨⟨wb, x0⟩⟩
                  have k0 : ∀ m : SWA (fun W : World => W.cell? ⟨b, K - 1, none⟩ = some (.bool true)), m.val.cell? ⟨b, K - 1, none⟩ = some (.bool true) := fun m => m.property
                  go_upto_region 13 with (fail)
                  refine wp_plan_A (fun W : World => W.cell? ⟨b, K - 1, none⟩ = some (.bool true)) x0 [([0, 1, 2, 3, 4, 5, 6, 7, 8, 9, 10, 11, 12, 13, 14, 15, 16, 17, 18, 19, 20, 21, 22, 23], [24])] (by kernel_rfl) (by kernel_rfl) (fun c a d v w h => by cases d <;> exact h) ?_
                  simp only [wpPlan, wpListK, List.map_cons, List.map_nil, Array.getD_eq_getD_getElem?, List.getElem?_toArray, List.getElem?_cons_succ, List.getElem?_cons_zero, Option.getD_some, Act.put, List.setIfInBounds_toArray, List.set_cons_succ, List.set_cons_zero]
                  (repeat (go_big_quiet_step (fail)))
                  refine wpQuiet_nil ?_
                  intro KK hKK
                  clear k0 hne
                  obtain ⟨wd, hwd⟩ : ∃ wd, wb.drew = wd := ⟨_, rfl⟩
                  have z1 : wd.cell? ⟨nb, K, none⟩ = some (.bool false) := by rw [← hwd]; exact z0
                  have zf1 : wd.frozen? ⟨nb, K, none⟩ = false := by rw [← hwd]; exact zf
                  have HX : Hid _ := Lib.hid (HSet.out wd true HDp.out (by rw [← hwd]; exact H3.out.1) (by rw [← hwd]; exact H3.out.2.1) (by rw [← hwd]; exact H3.out.2.2.drew))
                  have hx1 := HX.out.2.1.cell (j := K - 1) (by omega)
                  rw [if_pos (by omega), HXv.out] at hx1
                  have HXc := Lib.hid hx1
                  rw [hwd]
                  clear hwd z0 zf x0 HSet H3 hx1
                  go_wp2_with fail
                  refine hKK.out _ _ ⟨⟨_, HXc.out⟩, rfl⟩ ?_
                  clear hKK KK
                  go_wp2_with fail
                  go_roundw
                  case rel => exact ⟨K + 1, by omega, by go_num, HX⟩
                  case measure => simp [intOf]; omega
                · have h63i : ¬ (v.toNat : Int) = 63 := fun h => h63 (UInt8.toNat_inj.1 (by simpa using (by omega : v.toNat = 63)))
                  have g63 : (((v.toNat : Int)) == 63) = false := by simpa using h63i
                  obtain ⟨r, hr⟩ : ∃ r, (((v.toNat : Int)) == (c.toNat : Int)) = r := ⟨_, rfl⟩
                  have hfr : fitB v c = r := by
                    unfold fitB
                    have : (v == 63) = false := by simpa using h63
                    rw [this, Bool.false_or, ← hr, u8_eqP]
                  have HDp : Hid (dpF P S (I + 1) K = r) := Lib.hid (by rw [hdp, hfr]; simp)
                  clear h1 h2 h3 hdp HJ h42 h63 hfr
                  haveI hne : Nonempty (SWA (fun W : World => W.cell? ⟨b, K - 1, none⟩ = some (.bool true))) := ⟨⟨wb, x0⟩⟩
                  have k0 : ∀ m : SWA (fun W : World => W.cell? ⟨b, K - 1, none⟩ = some (.bool true)), m.val.cell? ⟨b, K - 1, none⟩ = some (.bool true) := fun m => m.property
                  go_upto_region 13 with (fail)
                  refine wp_plan_A (fun W : World => W.cell? ⟨b, K - 1, none⟩ = some (.bool true)) x0 [([0, 1, 2, 3, 4, 5, 6, 7, 8, 9, 10, 11, 12, 13, 14, 15, 16, 17, 18, 19, 20, 21, 22, 23], [24])] (by kernel_rfl) (by kernel_rfl) (fun c a d v w h => by cases d <;> exact h) ?_
                  simp only [wpPlan, wpListK, List.map_cons, List.map_nil, Array.getD_eq_getD_getElem?, List.getElem?_toArray, List.getElem?_cons_succ, List.getElem?_cons_zero, Option.getD_some, Act.put, List.setIfInBounds_toArray, List.set_cons_succ, List.set_cons_zero]
                  (repeat (go_big_quiet_step (fail)))
                  refine wpQuiet_nil ?_
                  intro KK hKK
                  clear k0 hne
                  obtain ⟨wd, hwd⟩ : ∃ wd, wb.drew = wd := ⟨_, rfl⟩
                  have z1 : wd.cell? ⟨nb, K, none⟩ = some (.bool false) := by rw [← hwd]; exact z0
                  have zf1 : wd.frozen? ⟨nb, K, none⟩ = false := by rw [← hwd]; exact zf
                  have HX : Hid _ := Lib.hid (HSet.out wd r HDp.out (by rw [← hwd]; exact H3.out.1) (by rw [← hwd]; exact H3.out.2.1) (by rw [← hwd]; exact H3.out.2.2.drew))
                  have hx1 := HX.out.2.1.cell (j := K - 1) (by omega)
                  rw [if_pos (by omega), HXv.out] at hx1
                  have HXc := Lib.hid hx1
                  rw [hwd]
                  clear hwd z0 zf x0 HSet H3 hx1
                  go_wp2_with fail
                  refine hKK.out _ _ ⟨⟨_, HXc.out⟩, rfl⟩ ?_
                  clear hKK KK
                  go_wp2_with fail
                  go_roundw
                  case rel => exact ⟨K + 1, by omega, by go_num, HX⟩
                  case measure => simp [intOf]; omega
            · have hd0 : decide (0 < K) = false := by simpa using hk0
              have HX : Hid (RowN wb nb (dpF P S (I + 1)) (K + 1) n ∧ RowN wb b (dpF P S I) n n ∧ Q w wb) := Lib.hid ⟨by
                unfold RowN at h1 ⊢
                rw [← rowN_skip _ _ _ (by rw [hdp, hd0]; rfl)]; exact h1, h2, h3⟩
              clear h1 h2 h3 hdp HJ HSet h42
              go_wp2_with fail
              go_roundw
              case rel => exact ⟨K + 1, by omega, by go_num, HX⟩
              case measure => simp [intOf]; omega
        · have hKn : K = n := by omega
          have hdk : decide (K ≤ S.length) = false := by have := HN.out; simp; omega
          have HX : Hid (RowN wb nb (dpF P S (I + 1)) n n ∧ Q w wb) := Lib.hid ⟨by have := HJ.out.1; rw [hKn] at this; exact this, HJ.out.2.2⟩
          clear HJ hKn
          go_wp2_with fail
          go_roundw
          case rel => exact ⟨I + 1, nb, by omega, by go_num, rfl, HX⟩
          case measure => simp [intOf]; omega
    · have hd : decide (I < P.length) = false := by simpa using hlt
      have hIe : I = P.length := by omega
      have hsn : S.length < n := by have := HN.out; omega
      have hsn2 : decide (S.length < n) = true := by simpa using hsn
      have x0 := HI.out.1.cell (j := S.length) (by have := HN.out; omega)
      rw [if_pos (by have := HN.out; omega), hIe, dp_lastB] at x0
      have HQ := Lib.hid HI.out.2
      clear HI hIe
      go_wp2_with fail
      go_ret
      exact ⟨rfl, HQ.out⟩
end Go.Proofs.YtlhhiiemojhjdaaDoor
