/- Texts of this proof, laid into one: Sjq, MpW. -/
import Derived.Test.YtmmoenbmgcplkaaGreatDoorMy22
set_option linter.unusedVariables false
set_option linter.unusedSimpArgs false
namespace Go.Proofs.YtmmoenbmgcplkaaGreatDoor
open Go Go.RowKit
theorem split_cut (c : UInt8) (l : List UInt8) : splitC c l = if uptoB c l = true then uptoP c l :: splitC c (uptoS c l) else [l] := by
  induction l with
  | nil => rfl
  | cons x r ih =>
    by_cases hx : x = c
    · simp [splitC, uptoB, uptoP, uptoS, cutB, hx]
    · have e1 : uptoB c (x :: r) = uptoB c r := by simp [uptoB, cutB, hx]
      have e2 : uptoP c (x :: r) = x :: uptoP c r := by simp [uptoP, cutB, hx]
      have e3 : uptoS c (x :: r) = uptoS c r := by simp [uptoS, cutB, hx]
      rw [e1, e2, e3]
      conv => lhs; unfold splitC
      rw [if_neg hx, ih]
      by_cases hb : uptoB c r = true
      · rw [if_pos hb, if_pos hb]
      · rw [if_neg hb, if_neg hb]
def APB (w : World) (b : Nat) (c : ClaimD) (v : Value) : Prop := w.heap[b]? = some (.cells (claimV c v).toArray 78 (0, 0))
theorem infoPts (c : ClaimD) (v : Value) : (Tryz.prog.info? 78).map (·.size) = some (claimV c v).toArray.size := by
  have : (Tryz.prog.info? 78).map (·.size) = some 5 := by kernel_rfl
  exact this
theorem APB.q {w w' : World} {b : Nat} {c : ClaimD} {v : Value} (h : APB w b c v) (hq : Q w w') : APB w' b c v := hq.block h
theorem APB.x {w w' : World} {b : Nat} {c : ClaimD} {v : Value} {S : List Nat} (h : APB w b c v) (hq : GX S w w') (hb : b ∉ S) : APB w' b c v := hq.heap hb h
theorem APB.lt {w : World} {b : Nat} {c : ClaimD} {v : Value} (h : APB w b c v) : b < w.heap.size := lt_of_heap h
theorem APB.f {w : World} {b : Nat} {c : ClaimD} {v : Value} (h : APB w b c v) (i : Nat) : w.frozen? ⟨b, i, none⟩ = false := frozen_of_row w b i _ _ h
theorem APB.c {w : World} {b : Nat} {c : ClaimD} {v : Value} (h : APB w b c v) :
    w.cell? ⟨b, 0, none⟩ = some (.string ⟨c.id.toArray⟩) ∧ w.cell? ⟨b, 1, none⟩ = some (.string ⟨c.day.toArray⟩) ∧ w.cell? ⟨b, 2, none⟩ = some (.string ⟨c.region.toArray⟩) ∧ w.cell? ⟨b, 3, none⟩ = some (.string ⟨c.sig.toArray⟩) ∧ w.cell? ⟨b, 4, none⟩ = some v := by
  refine ⟨?_, ?_, ?_, ?_, ?_⟩ <;> (rw [cell_of_row _ _ _ _ _ _ h]; rfl)
theorem APB.set4 {w : World} {b : Nat} {c : ClaimD} {v : Value} (h : APB w b c v) (x : Value) : APB (w.setCell ⟨b, 4, none⟩ x) b c x := by
  unfold APB; rw [heap_setCell_any w b 4 _ _ _ _ h]; rfl
theorem APB.row {w : World} {b : Nat} {c : ClaimD} {v : Value} (h : APB w b c v) (c' : ClaimD) (v' : Value) : APB (w.setRow b (claimV c' v').toArray) b c' v' := setRow_heap w b _ _ _ _ h
theorem APB.gb {w w' : World} {b : Nat} {c : ClaimD} {v u : Value} (h : APB w b c v) (hg : w.grownBy w' u.ownBlock) (hn : ∀ k, u.ownBlock = some k → b ≠ k) : APB w' b c v := by
  unfold APB; rw [hg.block b h.lt (fun e => hn b e.symm rfl)]; exact h
structure ApAt (w W : World) (N : Nat) (c : ClaimD) (v : Value) : Prop where
  lo : w.heap.size ≤ N
  q : Q w W
  z : APB W N zeroC (.slice none 0 0)
  x : APB W (N + 1) c v
theorem ApAt.mv {w W W' : World} {N : Nat} {c : ClaimD} {v : Value} (h : ApAt w W N c v) (hq : Q W W') : ApAt w W' N c v := ⟨h.lo, h.q.trans hq, h.z.q hq, h.x.q hq⟩
theorem ApAt.row {w W : World} {N : Nat} {c : ClaimD} {v : Value} (h : ApAt w W N c v) (c' : ClaimD) (v' : Value) : ApAt w (W.setRow (N + 1) (claimV c' v').toArray) N c' v' := by
  have hg : GX [N + 1] W (W.setRow (N + 1) (claimV c' v').toArray) := (GX.refl _ W).setRow (by simp) _
  exact ⟨h.lo, hg.toQ h.q (fun k hk => by have := h.lo; simp at hk; omega), h.z.x hg (by simp), h.x.row c' v'⟩
structure ApL (w W0 W : World) (N : Nat) (c : ClaimD) (v : Value) (us : List (List UInt8)) : Prop where
  a : ApAt w W N c v
  b : N + 1 < W0.heap.size
  s : W0.heap.size ≤ W.heap.size
  o : OwnS 9 W0 W v (us.map strV)
theorem ApL.mv {w W0 W W' : World} {N : Nat} {c : ClaimD} {v : Value} {us : List (List UInt8)} (h : ApL w W0 W N c v us) (hq : Q W W') : ApL w W0 W' N c v us := ⟨h.a.mv hq, h.b, Nat.le_trans h.s hq.size, h.o.q hq⟩
theorem ApL.own {w W0 W : World} {N : Nat} {c : ClaimD} {v : Value} {us : List (List UInt8)} (h : ApL w W0 W N c v us) {k : Nat} (e : v.ownBlock = some k) : W0.heap.size ≤ k := h.o.block e
theorem ApL.grown {w W0 W w' : World} {N : Nat} {c : ClaimD} {v : Value} {us : List (List UInt8)} (h : ApL w W0 W N c v us) (hg : W.grownBy w' v.ownBlock) : ApAt w w' N c v :=
  ⟨h.a.lo, gb_q_own hg h.a.q (fun k hk => by have := h.own hk; have := h.b; have := h.a.lo; omega), h.a.z.gb hg (fun k hk => by have := h.own hk; have := h.b; omega), h.a.x.gb hg (fun k hk => by have := h.own hk; have := h.b; omega)⟩
theorem ApL.step {w W0 W w' : World} {N : Nat} {c : ClaimD} {v v' : Value} {us : List (List UInt8)} {u : List UInt8} (h : ApL w W0 W N c v us) (ho : OwnS 9 W0 w' v' (us.map strV ++ [strV u])) (hg : W.grownBy w' v.ownBlock) :
    ApL w W0 (w'.setCell ⟨N + 1, 4, none⟩ v') N c v' (us ++ [u]) := by
  have ha := h.grown hg
  have hx : GX [N + 1] w' (w'.setCell ⟨N + 1, 4, none⟩ v') := (GX.refl _ w').set (by simp) _ _
  refine ⟨⟨ha.lo, hx.toQ ha.q (fun k hk => by have := ha.lo; simp at hk; omega), ha.z.x hx (by simp), ha.x.set4 v'⟩, h.b, ?_, ?_⟩
  · have := h.s; have := hg.size; have := hx.size; omega
  · have ho' : OwnS 9 W0 w' v' ((us ++ [u]).map strV) := by simpa using ho
    refine World.ownsRow.kept ho' (Lib.grownBy_setCell w' (N + 1) 4 v') (.inr fun e => ?_)
    have := ho'.block e; have := h.b; omega
def strN : Value → Nat
  | .string b => b.size
  | _ => 0
def ApPost (o : Option ClaimD) (w : World) (e : Ending) (w' : World) : Prop :=
  match o with
  | none => e = .returned (.tuple #[.agg (claimV zeroC (.slice none 0 0)).toArray, .bool false]) ∧ Q w w'
  | some c => ∃ A cap, e = .returned (.tuple #[.agg (claimV c (.slice A c.names.length cap)).toArray, .bool true]) ∧ c.names.length ≤ cap ∧ NmAt w' A c.names.length c.names ∧ Q w w'
theorem apart_boxes (w : World) : ∃ N w1 w2, w.heap.size = N ∧ w.alloc (.cells (claimV zeroC (.slice none 0 0)).toArray 78) = w1 ∧ w1.heap.size = N + 1 ∧ w1.alloc (.cells (claimV zeroC (.slice none 0 0)).toArray 78) = w2 ∧ ApAt w w2 N zeroC (.slice none 0 0) := by
  have q1 : Q w (w.alloc (.cells (claimV zeroC (.slice none 0 0)).toArray 78)) := (Q.refl w).alloc _
  have hs1 : (w.alloc (.cells (claimV zeroC (.slice none 0 0)).toArray 78)).heap.size = w.heap.size + 1 := by show (w.heap.push _).size = _; simp
  have b1 : APB (w.alloc (.cells (claimV zeroC (.slice none 0 0)).toArray 78)) w.heap.size zeroC (.slice none 0 0) := heap_alloc_new w _
  obtain ⟨w1, e1⟩ : ∃ W, w.alloc (.cells (claimV zeroC (.slice none 0 0)).toArray 78) = W := ⟨_, rfl⟩
  rw [e1] at q1 hs1 b1
  have q2 : Q w1 (w1.alloc (.cells (claimV zeroC (.slice none 0 0)).toArray 78)) := (Q.refl w1).alloc _
  have b2 : APB (w1.alloc (.cells (claimV zeroC (.slice none 0 0)).toArray 78)) w1.heap.size zeroC (.slice none 0 0) := heap_alloc_new w1 _
  refine ⟨w.heap.size, w1, _, rfl, e1, hs1, rfl, Nat.le_refl _, q1.trans q2, b1.q q2, ?_⟩
  rw [← hs1]; exact b2
theorem chrT_nat (b : UInt8) : chrT b = true ↔ (48 ≤ b.toNat ∧ b.toNat ≤ 57) := by unfold chrT; simp
theorem chrX_nat (b : UInt8) : chrX b = true ↔ ((48 ≤ b.toNat ∧ b.toNat ≤ 57) ∨ (97 ≤ b.toNat ∧ b.toNat ≤ 102)) := by unfold chrX chrT; simp
theorem startsR_pos {h s : List UInt8} (hp : Lib.hasPrefix s h = true) : startsR h s = s.drop h.length := by unfold startsR; rw [if_pos hp]
set_option maxRecDepth 100000 in
set_option maxHeartbeats 8000000 in
theorem apart_any (s : List UInt8) (w : World) (hs : s.length ≤ 1060000) : Calls Tryz.prog 53 #[.string ⟨s.toArray⟩] w (ApPost (apQ s) w) := by
  have HRW := Lib.hid (fun l W (h : l.length ≤ 100000000) => RWord_any l W h)
  have HUP := Lib.hid (fun l c W (h : l.length ≤ 100000000) => Rupto_any l c W h)
  have HBL := Lib.hid (fun l W (h : l.length ≤ 100000000) => blanks_any l W h)
  have HStt := Lib.hid (fun l h W (a : l.length ≤ 100000000) (b : h.length ≤ 1000) => starts_any l h W a b)
  obtain ⟨q, hq⟩ : ∃ q, apQ s = q := ⟨_, rfl⟩
  rw [hq]
  have HQQ := Lib.hid hq
  clear hq
  obtain ⟨N, w1, w2, hN, e1, hN1, e2, hap⟩ := apart_boxes w
  have HA := Lib.hid hap
  clear hap
  simp only [claimV, zeroC] at e1 e2
  have h1 := HStt.out s methodS w2 (by omega) (by decide)
  go_enter Tryz.func53, Tryz.ntmps53
  go_wp2_with fail
  refine h1.mono ?_
  rintro e wr ⟨rfl, rfl⟩
  clear h1 e1 e2 hN hN1
  rcases hB1 : Lib.hasPrefix s methodS with _ | _
  ·
    have HNo : Hid (q = none) := Lib.hid (by rw [← HQQ.out]; unfold apQ; rw [if_neg (by rw [hB1]; simp)])
    obtain ⟨x0, x1, x2, x3, x4⟩ := HA.out.x.c
    simp only [zeroC] at x0 x1 x2 x3 x4
    go_wp2_with (refine wpList_store_row rfl 78 _ _ rfl N (claimV zeroC (.slice none 0 0)).toArray (by rfl) (by rfl) 78 _ HA.out.z (infoPts _ _) rfl (claimV_one _ _ _ _) ?_)
    have hz9 := HA.out.z.row zeroC (.slice none 0 0)
    have hq9 : Q w (wr.setRow N (claimV zeroC (.slice none 0 0)).toArray) := ((GX.refl [N] wr).setRow (by simp) _).toQ HA.out.q (fun k hk => by have := HA.out.lo; simp at hk; omega)
    generalize wr.setRow N (claimV zeroC (.slice none 0 0)).toArray = W9 at hz9 hq9 ⊢
    have HZ9 := Lib.hid hz9
    have HQ9 := Lib.hid hq9
    clear hz9 hq9 x0 x1 x2 x3 x4
    go_wp2_with fail
    refine bodyPost_ret (v := .tuple #[.agg (claimV zeroC (.slice none 0 0)).toArray, .bool false]) ?_ rfl (by rw [HNo.out]; exact ⟨rfl, HQ9.out⟩)
    exact results_cell_row2 rfl _ _ N 78 _ (0, 0) _ _ (by rfl) (by rfl) HZ9.out Tryz.underlying78 rfl (infoPts _ _)
  rw [startsR_pos hB1]
  obtain ⟨S1, hS1⟩ : ∃ x, blkL (s.drop methodS.length) = x := ⟨_, rfl⟩
  have hl1 : S1.length ≤ 1060000 := by
    rw [← hS1]; unfold blkL Lib.trimLeftB
    have := (List.dropWhile_sublist (p := (· == (32 : UInt8))) (l := s.drop methodS.length)).length_le
    rw [List.length_drop] at this; omega
  have hd1 : (s.drop methodS.length).length ≤ 100000000 := by rw [List.length_drop]; omega
  obtain ⟨D1, hD1⟩ : ∃ x, s.drop methodS.length = x := ⟨_, rfl⟩
  have h1 := fun W => HBL.out (s.drop methodS.length) W hd1
  rw [hD1] at h1 ⊢
  have e1 : blkL D1 = S1 := by rw [← hD1]; exact hS1
  rw [e1] at h1
  have h2 := fun W => HStt.out S1 credW W (by omega) (by decide)
  have HQ1 : Hid ((if Lib.hasPrefix S1 credW = true then if uptoB 44 (S1.drop 11) = true then apC (uptoP 44 (S1.drop 11)) (uptoS 44 (S1.drop 11)) else none else none) = q) := Lib.hid (by
    rw [← HQQ.out]; unfold apQ
    rw [if_pos hB1]
    rw [show s.drop 17 = s.drop methodS.length from rfl, hS1])
  clear hS1 hB1 hd1 hD1 e1 HQQ
  go_wp2_with fail
  refine (h1 _).mono ?_
  rintro e wb ⟨rfl, rfl⟩
  go_wp2_with fail
  refine (h2 _).mono ?_
  rintro e wc ⟨rfl, rfl⟩
  clear h1 h2
  rcases hB1 : Lib.hasPrefix S1 credW with _ | _
  ·
    have HNo : Hid (q = none) := Lib.hid (by rw [← HQ1.out, if_neg (by rw [hB1]; simp)])
    obtain ⟨x0, x1, x2, x3, x4⟩ := HA.out.x.c
    simp only [zeroC] at x0 x1 x2 x3 x4
    go_wp2_with (refine wpList_store_row rfl 78 _ _ rfl N (claimV zeroC (.slice none 0 0)).toArray (by rfl) (by rfl) 78 _ HA.out.z (infoPts _ _) rfl (claimV_one _ _ _ _) ?_)
    have hz9 := HA.out.z.row zeroC (.slice none 0 0)
    have hq9 : Q w (wc.setRow N (claimV zeroC (.slice none 0 0)).toArray) := ((GX.refl [N] wc).setRow (by simp) _).toQ HA.out.q (fun k hk => by have := HA.out.lo; simp at hk; omega)
    generalize wc.setRow N (claimV zeroC (.slice none 0 0)).toArray = W9 at hz9 hq9 ⊢
    have HZ9 := Lib.hid hz9
    have HQ9 := Lib.hid hq9
    clear hz9 hq9 x0 x1 x2 x3 x4
    go_wp2_with fail
    refine bodyPost_ret (v := .tuple #[.agg (claimV zeroC (.slice none 0 0)).toArray, .bool false]) ?_ rfl (by rw [HNo.out]; exact ⟨rfl, HQ9.out⟩)
    exact results_cell_row2 rfl _ _ N 78 _ (0, 0) _ _ (by rfl) (by rfl) HZ9.out Tryz.underlying78 rfl (infoPts _ _)
  rw [startsR_pos hB1]
  obtain ⟨S2, hS2⟩ : ∃ x, S1.drop credW.length = x := ⟨_, rfl⟩
  have hl2 : S2.length ≤ 1060000 := by rw [← hS2, List.length_drop]; omega
  have HQ2 : Hid ((if uptoB 44 S2 = true then apC (uptoP 44 S2) (uptoS 44 S2) else none) = q) := Lib.hid (by
    rw [← HQ1.out, if_pos hB1]
    rw [show S1.drop 11 = S1.drop credW.length from rfl, hS2])
  rw [hS2]
  clear hS2 hB1 HQ1 hl1
  have h1 := fun W => HUP.out S2 44 W (by omega)
  obtain ⟨lp, ls⟩ := upto_len 44 S2
  go_wp2_with fail
  refine (h1 _).mono ?_
  rintro e wd ⟨rfl, hq⟩
  have HA2 := Lib.hid (HA.out.mv hq)
  clear hq h1 HA
  rcases hB1 : uptoB 44 S2 with _ | _
  ·
    have HNo : Hid (q = none) := Lib.hid (by rw [← HQ2.out, if_neg (by rw [hB1]; simp)])
    obtain ⟨x0, x1, x2, x3, x4⟩ := HA2.out.x.c
    simp only [zeroC] at x0 x1 x2 x3 x4
    go_wp2_with (refine wpList_store_row rfl 78 _ _ rfl N (claimV zeroC (.slice none 0 0)).toArray (by rfl) (by rfl) 78 _ HA2.out.z (infoPts _ _) rfl (claimV_one _ _ _ _) ?_)
    have hz9 := HA2.out.z.row zeroC (.slice none 0 0)
    have hq9 : Q w (wd.setRow N (claimV zeroC (.slice none 0 0)).toArray) := ((GX.refl [N] wd).setRow (by simp) _).toQ HA2.out.q (fun k hk => by have := HA2.out.lo; simp at hk; omega)
    generalize wd.setRow N (claimV zeroC (.slice none 0 0)).toArray = W9 at hz9 hq9 ⊢
    have HZ9 := Lib.hid hz9
    have HQ9 := Lib.hid hq9
    clear hz9 hq9 x0 x1 x2 x3 x4
    go_wp2_with fail
    refine bodyPost_ret (v := .tuple #[.agg (claimV zeroC (.slice none 0 0)).toArray, .bool false]) ?_ rfl (by rw [HNo.out]; exact ⟨rfl, HQ9.out⟩)
    exact results_cell_row2 rfl _ _ N 78 _ (0, 0) _ _ (by rfl) (by rfl) HZ9.out Tryz.underlying78 rfl (infoPts _ _)
  have HQ3 : Hid (apC (uptoP 44 S2) (uptoS 44 S2) = q) := Lib.hid (by rw [← HQ2.out, if_pos hB1])
  have eR : uptoR 44 S2 = uptoP 44 S2 := by unfold uptoR; rw [if_pos hB1]
  rw [eR]
  clear eR hB1 HQ2
  generalize uptoP 44 S2 = PT at *
  generalize uptoS 44 S2 = S3 at *
  have hl3 : S3.length ≤ 1060000 := by omega
  have hlp : PT.length ≤ 1060000 := by omega
  clear hl2 lp ls
  obtain ⟨la, lb⟩ := upto_len 47 PT
  obtain ⟨lc, ld⟩ := upto_len 47 (uptoS 47 PT)
  obtain ⟨le, lf⟩ := upto_len 47 (uptoS 47 (uptoS 47 PT))
  have h1 := fun W => HUP.out PT 47 W (by omega)
  have h2 := fun W => HUP.out (uptoS 47 PT) 47 W (by omega)
  have h3 := fun W => HUP.out (uptoS 47 (uptoS 47 PT)) 47 W (by omega)
  have la' : (uptoR 47 PT).length ≤ 1060000 := by
    unfold uptoR; split
    · omega
    · simp
  have h4 := fun W => HRW.out (uptoR 47 PT) W (by omega)
  have HCR : Hid (credOk PT = (uptoB 47 PT = true ∧ uptoB 47 (uptoS 47 PT) = true ∧ uptoB 47 (uptoS 47 (uptoS 47 PT)) = true ∧ uptoS 47 (uptoS 47 (uptoS 47 PT)) = s3L ∧ wordL (uptoP 47 PT) = true ∧ (uptoP 47 (uptoS 47 PT)).length = 8)) := Lib.hid rfl
  have HAC : Hid (apC PT S3 = if credOk PT then if (uptoP 47 (uptoS 47 PT)).all chrT = true then apH ⟨uptoP 47 PT, uptoP 47 (uptoS 47 PT), uptoP 47 (uptoS 47 (uptoS 47 PT)), [], []⟩ S3 else none else none) := Lib.hid rfl
  obtain ⟨ID, hID⟩ : ∃ x, uptoP 47 PT = x := ⟨_, rfl⟩
  obtain ⟨IR, hIR⟩ : ∃ x, uptoR 47 PT = x := ⟨_, rfl⟩
  obtain ⟨C1, hC1⟩ : ∃ x, uptoB 47 PT = x := ⟨_, rfl⟩
  obtain ⟨P1, hP1⟩ : ∃ x, uptoS 47 PT = x := ⟨_, rfl⟩
  have hir : C1 = true → IR = ID := fun h => by rw [← hIR, ← hID]; unfold uptoR; rw [hC1, if_pos h]
  rw [hID] at HCR HAC la
  rw [hIR] at h1 h4 la'
  rw [hC1] at h1 HCR
  rw [hP1] at h1 h2 h3 HCR HAC lb lc ld le lf
  clear hID hIR hC1 hP1
  obtain ⟨DY, hDY⟩ : ∃ x, uptoP 47 P1 = x := ⟨_, rfl⟩
  obtain ⟨DR, hDR⟩ : ∃ x, uptoR 47 P1 = x := ⟨_, rfl⟩
  obtain ⟨C2, hC2⟩ : ∃ x, uptoB 47 P1 = x := ⟨_, rfl⟩
  obtain ⟨P2, hP2⟩ : ∃ x, uptoS 47 P1 = x := ⟨_, rfl⟩
  have hdr : C2 = true → DR = DY := fun h => by rw [← hDR, ← hDY]; unfold uptoR; rw [hC2, if_pos h]
  have ldr : DR.length ≤ 1060000 := by
    rw [← hDR]; unfold uptoR; split
    · omega
    · simp
  rw [hDY] at HCR HAC lc
  rw [hDR] at h2
  rw [hC2] at h2 HCR
  rw [hP2] at h2 h3 HCR HAC ld le lf
  clear hDY hDR hC2 hP2
  obtain ⟨RG, hRG⟩ : ∃ x, uptoP 47 P2 = x := ⟨_, rfl⟩
  obtain ⟨RR, hRR⟩ : ∃ x, uptoR 47 P2 = x := ⟨_, rfl⟩
  obtain ⟨C3, hC3⟩ : ∃ x, uptoB 47 P2 = x := ⟨_, rfl⟩
  obtain ⟨P3, hP3⟩ : ∃ x, uptoS 47 P2 = x := ⟨_, rfl⟩
  have hrr : C3 = true → RR = RG := fun h => by rw [← hRR, ← hRG]; unfold uptoR; rw [hC3, if_pos h]
  rw [hRG] at HAC le
  rw [hRR] at h3
  rw [hC3] at h3 HCR
  rw [hP3] at h3 HCR lf
  clear hRG hRR hC3 hP3
  have HIR := Lib.hid hir
  have HDR := Lib.hid hdr
  have HRR := Lib.hid hrr
  clear hir hdr hrr
  obtain ⟨WD, hWD⟩ : ∃ x, wordL IR = x := ⟨_, rfl⟩
  rw [hWD] at h4
  have HWD := Lib.hid hWD
  clear hWD
  have lP3 : P3.length ≤ 1060000 := by omega
  have lDY : DY.length ≤ 1060000 := by omega
  clear la lb lc ld le lf
  go_wp2_with fail
  refine (h1 _).mono ?_
  rintro e we ⟨rfl, hq⟩
  have HA3 := Lib.hid (HA2.out.mv hq)
  clear hq h1 HA2
  go_wp2_with fail
  refine (h2 _).mono ?_
  rintro e wf ⟨rfl, hq⟩
  have HA4 := Lib.hid (HA3.out.mv hq)
  clear hq h2 HA3
  go_wp2_with fail
  refine (h3 _).mono ?_
  rintro e wg ⟨rfl, hq⟩
  have HA5 := Lib.hid (HA4.out.mv hq)
  clear hq h3 HA4
  go_wp2_with fail
  refine (h4 _).mono ?_
  rintro e wh ⟨rfl, rfl⟩
  clear h4
  rcases C1 with _ | _
  ·
    have HNo : Hid (q = none) := Lib.hid (by rw [← HQ3.out, HAC.out, if_neg (fun h => by rw [HCR.out] at h; exact absurd h.1 (by simp))])
    obtain ⟨x0, x1, x2, x3, x4⟩ := HA5.out.x.c
    simp only [zeroC] at x0 x1 x2 x3 x4
    go_wp2_with (refine wpList_store_row rfl 78 _ _ rfl N (claimV zeroC (.slice none 0 0)).toArray (by rfl) (by rfl) 78 _ HA5.out.z (infoPts _ _) rfl (claimV_one _ _ _ _) ?_)
    have hz9 := HA5.out.z.row zeroC (.slice none 0 0)
    have hq9 : Q w (wh.setRow N (claimV zeroC (.slice none 0 0)).toArray) := ((GX.refl [N] wh).setRow (by simp) _).toQ HA5.out.q (fun k hk => by have := HA5.out.lo; simp at hk; omega)
    generalize wh.setRow N (claimV zeroC (.slice none 0 0)).toArray = W9 at hz9 hq9 ⊢
    have HZ9 := Lib.hid hz9
    have HQ9 := Lib.hid hq9
    clear hz9 hq9 x0 x1 x2 x3 x4
    go_wp2_with fail
    refine bodyPost_ret (v := .tuple #[.agg (claimV zeroC (.slice none 0 0)).toArray, .bool false]) ?_ rfl (by rw [HNo.out]; exact ⟨rfl, HQ9.out⟩)
    exact results_cell_row2 rfl _ _ N 78 _ (0, 0) _ _ (by rfl) (by rfl) HZ9.out Tryz.underlying78 rfl (infoPts _ _)
  rcases C2 with _ | _
  ·
    have HNo : Hid (q = none) := Lib.hid (by rw [← HQ3.out, HAC.out, if_neg (fun h => by rw [HCR.out] at h; exact absurd h.2.1 (by simp))])
    obtain ⟨x0, x1, x2, x3, x4⟩ := HA5.out.x.c
    simp only [zeroC] at x0 x1 x2 x3 x4
    go_wp2_with (refine wpList_store_row rfl 78 _ _ rfl N (claimV zeroC (.slice none 0 0)).toArray (by rfl) (by rfl) 78 _ HA5.out.z (infoPts _ _) rfl (claimV_one _ _ _ _) ?_)
    have hz9 := HA5.out.z.row zeroC (.slice none 0 0)
    have hq9 : Q w (wh.setRow N (claimV zeroC (.slice none 0 0)).toArray) := ((GX.refl [N] wh).setRow (by simp) _).toQ HA5.out.q (fun k hk => by have := HA5.out.lo; simp at hk; omega)
    generalize wh.setRow N (claimV zeroC (.slice none 0 0)).toArray = W9 at hz9 hq9 ⊢
    have HZ9 := Lib.hid hz9
    have HQ9 := Lib.hid hq9
    clear hz9 hq9 x0 x1 x2 x3 x4
    go_wp2_with fail
    refine bodyPost_ret (v := .tuple #[.agg (claimV zeroC (.slice none 0 0)).toArray, .bool false]) ?_ rfl (by rw [HNo.out]; exact ⟨rfl, HQ9.out⟩)
    exact results_cell_row2 rfl _ _ N 78 _ (0, 0) _ _ (by rfl) (by rfl) HZ9.out Tryz.underlying78 rfl (infoPts _ _)
  rcases C3 with _ | _
  ·
    have HNo : Hid (q = none) := Lib.hid (by rw [← HQ3.out, HAC.out, if_neg (fun h => by rw [HCR.out] at h; exact absurd h.2.2.1 (by simp))])
    obtain ⟨x0, x1, x2, x3, x4⟩ := HA5.out.x.c
    simp only [zeroC] at x0 x1 x2 x3 x4
    go_wp2_with (refine wpList_store_row rfl 78 _ _ rfl N (claimV zeroC (.slice none 0 0)).toArray (by rfl) (by rfl) 78 _ HA5.out.z (infoPts _ _) rfl (claimV_one _ _ _ _) ?_)
    have hz9 := HA5.out.z.row zeroC (.slice none 0 0)
    have hq9 : Q w (wh.setRow N (claimV zeroC (.slice none 0 0)).toArray) := ((GX.refl [N] wh).setRow (by simp) _).toQ HA5.out.q (fun k hk => by have := HA5.out.lo; simp at hk; omega)
    generalize wh.setRow N (claimV zeroC (.slice none 0 0)).toArray = W9 at hz9 hq9 ⊢
    have HZ9 := Lib.hid hz9
    have HQ9 := Lib.hid hq9
    clear hz9 hq9 x0 x1 x2 x3 x4
    go_wp2_with fail
    refine bodyPost_ret (v := .tuple #[.agg (claimV zeroC (.slice none 0 0)).toArray, .bool false]) ?_ rfl (by rw [HNo.out]; exact ⟨rfl, HQ9.out⟩)
    exact results_cell_row2 rfl _ _ N 78 _ (0, 0) _ _ (by rfl) (by rfl) HZ9.out Tryz.underlying78 rfl (infoPts _ _)
  have e1 := HIR.out rfl
  have e2 := HDR.out rfl
  have e3 := HRR.out rfl
  subst e1 e2 e3
  clear HIR HDR HRR
  by_cases hP3 : P3 = s3L
  rotate_left
  ·
    have gp : (P3 == [115, 51, 47, 97, 119, 115, 52, 95, 114, 101, 113, 117, 101, 115, 116]) = false := by
      simp only [beq_eq_false_iff_ne, ne_eq]; exact hP3
    have HNo : Hid (q = none) := Lib.hid (by rw [← HQ3.out, HAC.out, if_neg (fun h => by rw [HCR.out] at h; exact hP3 h.2.2.2.1)])
    obtain ⟨x0, x1, x2, x3, x4⟩ := HA5.out.x.c
    simp only [zeroC] at x0 x1 x2 x3 x4
    go_wp2_with (refine wpList_store_row rfl 78 _ _ rfl N (claimV zeroC (.slice none 0 0)).toArray (by rfl) (by rfl) 78 _ HA5.out.z (infoPts _ _) rfl (claimV_one _ _ _ _) ?_)
    have hz9 := HA5.out.z.row zeroC (.slice none 0 0)
    have hq9 : Q w (wh.setRow N (claimV zeroC (.slice none 0 0)).toArray) := ((GX.refl [N] wh).setRow (by simp) _).toQ HA5.out.q (fun k hk => by have := HA5.out.lo; simp at hk; omega)
    generalize wh.setRow N (claimV zeroC (.slice none 0 0)).toArray = W9 at hz9 hq9 ⊢
    have HZ9 := Lib.hid hz9
    have HQ9 := Lib.hid hq9
    clear hz9 hq9 x0 x1 x2 x3 x4
    go_wp2_with fail
    refine bodyPost_ret (v := .tuple #[.agg (claimV zeroC (.slice none 0 0)).toArray, .bool false]) ?_ rfl (by rw [HNo.out]; exact ⟨rfl, HQ9.out⟩)
    exact results_cell_row2 rfl _ _ N 78 _ (0, 0) _ _ (by rfl) (by rfl) HZ9.out Tryz.underlying78 rfl (infoPts _ _)
  have gp : (P3 == [115, 51, 47, 97, 119, 115, 52, 95, 114, 101, 113, 117, 101, 115, 116]) = true := by
    rw [beq_iff_eq]; exact hP3
  rcases WD with _ | _
  ·
    have HNo : Hid (q = none) := Lib.hid (by rw [← HQ3.out, HAC.out, if_neg (fun h => by rw [HCR.out] at h; have := h.2.2.2.2.1; rw [HWD.out] at this; cases this)])
    obtain ⟨x0, x1, x2, x3, x4⟩ := HA5.out.x.c
    simp only [zeroC] at x0 x1 x2 x3 x4
    go_wp2_with (refine wpList_store_row rfl 78 _ _ rfl N (claimV zeroC (.slice none 0 0)).toArray (by rfl) (by rfl) 78 _ HA5.out.z (infoPts _ _) rfl (claimV_one _ _ _ _) ?_)
    have hz9 := HA5.out.z.row zeroC (.slice none 0 0)
    have hq9 : Q w (wh.setRow N (claimV zeroC (.slice none 0 0)).toArray) := ((GX.refl [N] wh).setRow (by simp) _).toQ HA5.out.q (fun k hk => by have := HA5.out.lo; simp at hk; omega)
    generalize wh.setRow N (claimV zeroC (.slice none 0 0)).toArray = W9 at hz9 hq9 ⊢
    have HZ9 := Lib.hid hz9
    have HQ9 := Lib.hid hq9
    clear hz9 hq9 x0 x1 x2 x3 x4
    go_wp2_with fail
    refine bodyPost_ret (v := .tuple #[.agg (claimV zeroC (.slice none 0 0)).toArray, .bool false]) ?_ rfl (by rw [HNo.out]; exact ⟨rfl, HQ9.out⟩)
    exact results_cell_row2 rfl _ _ N 78 _ (0, 0) _ _ (by rfl) (by rfl) HZ9.out Tryz.underlying78 rfl (infoPts _ _)
  by_cases hD8 : DR.length = 8
  rotate_left
  ·
    have g8 : ((DR.length : Int) == 8) = false := by rw [beq_eq_false_iff_ne]; omega
    have HNo : Hid (q = none) := Lib.hid (by rw [← HQ3.out, HAC.out, if_neg (fun h => by rw [HCR.out] at h; exact hD8 h.2.2.2.2.2)])
    obtain ⟨x0, x1, x2, x3, x4⟩ := HA5.out.x.c
    simp only [zeroC] at x0 x1 x2 x3 x4
    go_wp2_with (refine wpList_store_row rfl 78 _ _ rfl N (claimV zeroC (.slice none 0 0)).toArray (by rfl) (by rfl) 78 _ HA5.out.z (infoPts _ _) rfl (claimV_one _ _ _ _) ?_)
    have hz9 := HA5.out.z.row zeroC (.slice none 0 0)
    have hq9 : Q w (wh.setRow N (claimV zeroC (.slice none 0 0)).toArray) := ((GX.refl [N] wh).setRow (by simp) _).toQ HA5.out.q (fun k hk => by have := HA5.out.lo; simp at hk; omega)
    generalize wh.setRow N (claimV zeroC (.slice none 0 0)).toArray = W9 at hz9 hq9 ⊢
    have HZ9 := Lib.hid hz9
    have HQ9 := Lib.hid hq9
    clear hz9 hq9 x0 x1 x2 x3 x4
    go_wp2_with fail
    refine bodyPost_ret (v := .tuple #[.agg (claimV zeroC (.slice none 0 0)).toArray, .bool false]) ?_ rfl (by rw [HNo.out]; exact ⟨rfl, HQ9.out⟩)
    exact results_cell_row2 rfl _ _ N 78 _ (0, 0) _ _ (by rfl) (by rfl) HZ9.out Tryz.underlying78 rfl (infoPts _ _)
  have HQ4 : Hid ((if DR.all chrT = true then apH ⟨IR, DR, RR, [], []⟩ S3 else none) = q) := Lib.hid (by
    rw [← HQ3.out, HAC.out, if_pos (show credOk PT by rw [HCR.out]; exact ⟨rfl, rfl, rfl, hP3, HWD.out, hD8⟩)])
  have g8 : ((DR.length : Int) == 8) = true := by rw [beq_iff_eq]; omega
  have g8' : ((DR.length : Int) != 8) = false := by rw [bne, g8]; rfl
  clear HQ3 HAC HCR
  have HP3 := Lib.hid hP3
  clear hP3
  have HD8 := Lib.hid hD8
  clear hD8
  go_upto_region 18 with (fail)
  have hD8 := HD8.out
  clear g8 g8' gp
  go_loopw [16] (fun i wr => ∃ k : Nat, k ≤ 8 ∧ i = .int .i64 (k : Int) ∧ Hid ((DR.take k).all chrT = true) ∧ wr = wh) (fun i _ => 8 - (intOf i).toNat)
  case atStart => exact ⟨0, by omega, rfl, Lib.hid (by simp), rfl⟩
  case round =>
    obtain ⟨k, hk, rfl, HAl, rfl⟩ := hrel
    by_cases hlt : k < 8
    · have g1 : decide ((k : Int) < 8) = true := by simp; omega
      have hkl : k < DR.length := by omega
      have HSN := Lib.hid (all_snocW DR k hkl chrT)
      have HB := Lib.hid (fun h => all_bad (p := chrT) hkl h)
      obtain ⟨b, hgb⟩ : ∃ b, gB DR k = b := ⟨_, rfl⟩
      rw [hgb] at HSN HB
      have HOK := Lib.hid (chrT_nat b)
      have hb8 := b.toNat_lt
      have hcs : ((b.toNat : Int) < 48) ∨ ((57 : Int) < b.toNat ∧ (48 : Int) ≤ b.toNat) ∨ ((48 : Int) ≤ b.toNat ∧ (b.toNat : Int) ≤ 57) := by omega
      rcases hcs with h | ⟨h, h0⟩ | ⟨h, h0⟩
      · have HNo : Hid (q = none) := Lib.hid (by
          rw [← HQ4.out, if_neg (fun hh => by rw [HB.out (by rw [Bool.eq_false_iff]; intro e; have := HOK.out.1 e; omega)] at hh; cases hh)])
        have q1 : decide ((b.toNat : Int) < 48) = true := by simp; omega
        clear HOK HSN HB HAl
        obtain ⟨x0, x1, x2, x3, x4⟩ := HA5.out.x.c
        simp only [zeroC] at x0 x1 x2 x3 x4
        go_wp2_with (refine wpList_store_row rfl 78 _ _ rfl N (claimV zeroC (.slice none 0 0)).toArray (by rfl) (by rfl) 78 _ HA5.out.z (infoPts _ _) rfl (claimV_one _ _ _ _) ?_)
        have hz9 := HA5.out.z.row zeroC (.slice none 0 0)
        have hq9 : Q w (wr.setRow N (claimV zeroC (.slice none 0 0)).toArray) := ((GX.refl [N] wr).setRow (by simp) _).toQ HA5.out.q (fun k hk => by have := HA5.out.lo; simp at hk; omega)
        generalize wr.setRow N (claimV zeroC (.slice none 0 0)).toArray = W9 at hz9 hq9 ⊢
        have HZ9 := Lib.hid hz9
        have HQ9 := Lib.hid hq9
        clear hz9 hq9 x0 x1 x2 x3 x4
        go_wp2_with fail
        refine bodyPost_ret (v := .tuple #[.agg (claimV zeroC (.slice none 0 0)).toArray, .bool false]) ?_ rfl (by rw [HNo.out]; exact ⟨rfl, HQ9.out⟩)
        exact results_cell_row2 rfl _ _ N 78 _ (0, 0) _ _ (by rfl) (by rfl) HZ9.out Tryz.underlying78 rfl (infoPts _ _)
      · have HNo : Hid (q = none) := Lib.hid (by
          rw [← HQ4.out, if_neg (fun hh => by rw [HB.out (by rw [Bool.eq_false_iff]; intro e; have := HOK.out.1 e; omega)] at hh; cases hh)])
        have q1 : decide ((b.toNat : Int) < 48) = false := by simp; omega
        have q2 : decide ((57 : Int) < (b.toNat : Int)) = true := by simp; omega
        clear HOK HSN HB HAl
        obtain ⟨x0, x1, x2, x3, x4⟩ := HA5.out.x.c
        simp only [zeroC] at x0 x1 x2 x3 x4
        go_wp2_with (refine wpList_store_row rfl 78 _ _ rfl N (claimV zeroC (.slice none 0 0)).toArray (by rfl) (by rfl) 78 _ HA5.out.z (infoPts _ _) rfl (claimV_one _ _ _ _) ?_)
        have hz9 := HA5.out.z.row zeroC (.slice none 0 0)
        have hq9 : Q w (wr.setRow N (claimV zeroC (.slice none 0 0)).toArray) := ((GX.refl [N] wr).setRow (by simp) _).toQ HA5.out.q (fun k hk => by have := HA5.out.lo; simp at hk; omega)
        generalize wr.setRow N (claimV zeroC (.slice none 0 0)).toArray = W9 at hz9 hq9 ⊢
        have HZ9 := Lib.hid hz9
        have HQ9 := Lib.hid hq9
        clear hz9 hq9 x0 x1 x2 x3 x4
        go_wp2_with fail
        refine bodyPost_ret (v := .tuple #[.agg (claimV zeroC (.slice none 0 0)).toArray, .bool false]) ?_ rfl (by rw [HNo.out]; exact ⟨rfl, HQ9.out⟩)
        exact results_cell_row2 rfl _ _ N 78 _ (0, 0) _ _ (by rfl) (by rfl) HZ9.out Tryz.underlying78 rfl (infoPts _ _)
      · have HA2 : Hid ((DR.take (k + 1)).all chrT = true) := Lib.hid (by rw [HSN.out, HAl.out, HOK.out.2 (by omega)]; rfl)
        have q1 : decide ((b.toNat : Int) < 48) = false := by simp; omega
        have q2 : decide ((57 : Int) < (b.toNat : Int)) = false := by simp; omega
        clear HOK HSN HB
        go_wp2_with fail
        go_roundw
        case rel => exact ⟨k + 1, by omega, by go_num, HA2, trivial⟩
        case measure => simp [intOf]; omega
    · obtain rfl : k = 8 := by omega
      have HQ5 : Hid (apH ⟨IR, DR, RR, [], []⟩ S3 = q) := Lib.hid (by
        rw [← HQ4.out, if_pos]
        rw [← HAl.out, List.take_of_length_le (by omega)])
      clear hlt hk HAl HQ4
      obtain ⟨S4, hS4⟩ : ∃ x, blkL S3 = x := ⟨_, rfl⟩
      have hl4 : S4.length ≤ 1060000 := by
        rw [← hS4]; unfold blkL Lib.trimLeftB
        have := (List.dropWhile_sublist (p := (· == (32 : UInt8))) (l := S3)).length_le
        omega
      have h1 := fun W => HBL.out S3 W (by omega)
      rw [hS4] at h1
      have h2 := fun W => HStt.out S4 shdW W (by omega) (by decide)
      have HQ6 : Hid ((if Lib.hasPrefix S4 shdW = true then if uptoB 44 (S4.drop 14) = true then apS ⟨IR, DR, RR, [], splitC 59 (uptoP 44 (S4.drop 14))⟩ (uptoS 44 (S4.drop 14)) else none else none) = q) := Lib.hid (by
        rw [← HQ5.out]; unfold apH; rw [hS4])
      clear hS4 HQ5
      go_wp2_with fail
      refine (h1 _).mono ?_
      rintro e wb ⟨rfl, rfl⟩
      go_wp2_with fail
      refine (h2 _).mono ?_
      rintro e wc ⟨rfl, rfl⟩
      clear h1 h2
      rcases hB1 : Lib.hasPrefix S4 shdW with _ | _
      ·
        have HNo : Hid (q = none) := Lib.hid (by rw [← HQ6.out, if_neg (by rw [hB1]; simp)])
        obtain ⟨x0, x1, x2, x3, x4⟩ := HA5.out.x.c
        simp only [zeroC] at x0 x1 x2 x3 x4
        go_wp2_with (refine wpList_store_row rfl 78 _ _ rfl N (claimV zeroC (.slice none 0 0)).toArray (by rfl) (by rfl) 78 _ HA5.out.z (infoPts _ _) rfl (claimV_one _ _ _ _) ?_)
        have hz9 := HA5.out.z.row zeroC (.slice none 0 0)
        have hq9 : Q w (wc.setRow N (claimV zeroC (.slice none 0 0)).toArray) := ((GX.refl [N] wc).setRow (by simp) _).toQ HA5.out.q (fun k hk => by have := HA5.out.lo; simp at hk; omega)
        generalize wc.setRow N (claimV zeroC (.slice none 0 0)).toArray = W9 at hz9 hq9 ⊢
        have HZ9 := Lib.hid hz9
        have HQ9 := Lib.hid hq9
        clear hz9 hq9 x0 x1 x2 x3 x4
        go_wp2_with fail
        refine bodyPost_ret (v := .tuple #[.agg (claimV zeroC (.slice none 0 0)).toArray, .bool false]) ?_ rfl (by rw [HNo.out]; exact ⟨rfl, HQ9.out⟩)
        exact results_cell_row2 rfl _ _ N 78 _ (0, 0) _ _ (by rfl) (by rfl) HZ9.out Tryz.underlying78 rfl (infoPts _ _)
      rw [startsR_pos hB1]
      obtain ⟨S5, hS5⟩ : ∃ x, S4.drop shdW.length = x := ⟨_, rfl⟩
      have hl5 : S5.length ≤ 1060000 := by rw [← hS5, List.length_drop]; omega
      have HQ7 : Hid ((if uptoB 44 S5 = true then apS ⟨IR, DR, RR, [], splitC 59 (uptoP 44 S5)⟩ (uptoS 44 S5) else none) = q) := Lib.hid (by
        rw [← HQ6.out, if_pos hB1]
        rw [show S4.drop 14 = S4.drop shdW.length from rfl, hS5])
      rw [hS5]
      clear hS5 hB1 HQ6 hl4
      have h1 := fun W => HUP.out S5 44 W (by omega)
      obtain ⟨lp, ls⟩ := upto_len 44 S5
      go_wp2_with fail
      refine (h1 _).mono ?_
      rintro e wd ⟨rfl, hq⟩
      have HA6 := Lib.hid (HA5.out.mv hq)
      clear hq h1 HA5
      rcases hB1 : uptoB 44 S5 with _ | _
      ·
        have HNo : Hid (q = none) := Lib.hid (by rw [← HQ7.out, if_neg (by rw [hB1]; simp)])
        obtain ⟨x0, x1, x2, x3, x4⟩ := HA6.out.x.c
        simp only [zeroC] at x0 x1 x2 x3 x4
        go_wp2_with (refine wpList_store_row rfl 78 _ _ rfl N (claimV zeroC (.slice none 0 0)).toArray (by rfl) (by rfl) 78 _ HA6.out.z (infoPts _ _) rfl (claimV_one _ _ _ _) ?_)
        have hz9 := HA6.out.z.row zeroC (.slice none 0 0)
        have hq9 : Q w (wd.setRow N (claimV zeroC (.slice none 0 0)).toArray) := ((GX.refl [N] wd).setRow (by simp) _).toQ HA6.out.q (fun k hk => by have := HA6.out.lo; simp at hk; omega)
        generalize wd.setRow N (claimV zeroC (.slice none 0 0)).toArray = W9 at hz9 hq9 ⊢
        have HZ9 := Lib.hid hz9
        have HQ9 := Lib.hid hq9
        clear hz9 hq9 x0 x1 x2 x3 x4
        go_wp2_with fail
        refine bodyPost_ret (v := .tuple #[.agg (claimV zeroC (.slice none 0 0)).toArray, .bool false]) ?_ rfl (by rw [HNo.out]; exact ⟨rfl, HQ9.out⟩)
        exact results_cell_row2 rfl _ _ N 78 _ (0, 0) _ _ (by rfl) (by rfl) HZ9.out Tryz.underlying78 rfl (infoPts _ _)
      have HQ8 : Hid (apS ⟨IR, DR, RR, [], splitC 59 (uptoP 44 S5)⟩ (uptoS 44 S5) = q) := Lib.hid (by rw [← HQ7.out, if_pos hB1])
      have eR : uptoR 44 S5 = uptoP 44 S5 := by unfold uptoR; rw [if_pos hB1]
      rw [eR]
      clear eR hB1 HQ7
      generalize uptoP 44 S5 = LS at *
      generalize uptoS 44 S5 = S6 at *
      have hl6 : S6.length ≤ 1060000 := by omega
      have hls : LS.length ≤ 1060000 := by omega
      clear hl5 lp ls
      obtain ⟨S7, hS7⟩ : ∃ x, blkL S6 = x := ⟨_, rfl⟩
      have hl7 : S7.length ≤ 1060000 := by
        rw [← hS7]; unfold blkL Lib.trimLeftB
        have := (List.dropWhile_sublist (p := (· == (32 : UInt8))) (l := S6)).length_le
        omega
      have h1 := fun W => HBL.out S6 W (by omega)
      rw [hS7] at h1
      have h2 := fun W => HStt.out S7 sgnW W (by omega) (by decide)
      have HQ9 : Hid ((if Lib.hasPrefix S7 sgnW = true ∧ (S7.drop 10).length = 64 then if (S7.drop 10).all chrX = true then some ⟨IR, DR, RR, S7.drop 10, splitC 59 LS⟩ else none else none) = q) := Lib.hid (by
        rw [← HQ8.out]; unfold apS; rw [hS7])
      clear hS7 HQ8
      go_wp2_with fail
      refine (h1 _).mono ?_
      rintro e wb ⟨rfl, rfl⟩
      go_wp2_with fail
      refine (h2 _).mono ?_
      rintro e wc ⟨rfl, rfl⟩
      clear h1 h2
      rcases hB1 : Lib.hasPrefix S7 sgnW with _ | _
      ·
        have HNo : Hid (q = none) := Lib.hid (by rw [← HQ9.out, if_neg (fun h => by rw [hB1] at h; exact absurd h.1 (by simp))])
        obtain ⟨x0, x1, x2, x3, x4⟩ := HA6.out.x.c
        simp only [zeroC] at x0 x1 x2 x3 x4
        go_wp2_with (refine wpList_store_row rfl 78 _ _ rfl N (claimV zeroC (.slice none 0 0)).toArray (by rfl) (by rfl) 78 _ HA6.out.z (infoPts _ _) rfl (claimV_one _ _ _ _) ?_)
        have hz9 := HA6.out.z.row zeroC (.slice none 0 0)
        have hq9 : Q w (wc.setRow N (claimV zeroC (.slice none 0 0)).toArray) := ((GX.refl [N] wc).setRow (by simp) _).toQ HA6.out.q (fun k hk => by have := HA6.out.lo; simp at hk; omega)
        generalize wc.setRow N (claimV zeroC (.slice none 0 0)).toArray = W9 at hz9 hq9 ⊢
        have HZ9 := Lib.hid hz9
        have HQ9 := Lib.hid hq9
        clear hz9 hq9 x0 x1 x2 x3 x4
        go_wp2_with fail
        refine bodyPost_ret (v := .tuple #[.agg (claimV zeroC (.slice none 0 0)).toArray, .bool false]) ?_ rfl (by rw [HNo.out]; exact ⟨rfl, HQ9.out⟩)
        exact results_cell_row2 rfl _ _ N 78 _ (0, 0) _ _ (by rfl) (by rfl) HZ9.out Tryz.underlying78 rfl (infoPts _ _)
      rw [startsR_pos hB1]
      obtain ⟨SG, hSG⟩ : ∃ x, S7.drop sgnW.length = x := ⟨_, rfl⟩
      have hlg : SG.length ≤ 1060000 := by rw [← hSG, List.length_drop]; omega
      have HQa : Hid ((if SG.length = 64 then if SG.all chrX = true then some ⟨IR, DR, RR, SG, splitC 59 LS⟩ else none else none) = q) := Lib.hid (by
        rw [← HQ9.out, show S7.drop 10 = S7.drop sgnW.length from rfl, hSG]
        simp only [hB1, true_and])
      rw [hSG]
      clear hSG hB1 HQ9 hl7
      by_cases hD9 : SG.length = 64
      rotate_left
      ·
        have g8 : ((SG.length : Int) == 64) = false := by rw [beq_eq_false_iff_ne]; omega
        have HNo : Hid (q = none) := Lib.hid (by rw [← HQa.out, if_neg hD9])
        obtain ⟨x0, x1, x2, x3, x4⟩ := HA6.out.x.c
        simp only [zeroC] at x0 x1 x2 x3 x4
        go_wp2_with (refine wpList_store_row rfl 78 _ _ rfl N (claimV zeroC (.slice none 0 0)).toArray (by rfl) (by rfl) 78 _ HA6.out.z (infoPts _ _) rfl (claimV_one _ _ _ _) ?_)
        have hz9 := HA6.out.z.row zeroC (.slice none 0 0)
        have hq9 : Q w (wc.setRow N (claimV zeroC (.slice none 0 0)).toArray) := ((GX.refl [N] wc).setRow (by simp) _).toQ HA6.out.q (fun k hk => by have := HA6.out.lo; simp at hk; omega)
        generalize wc.setRow N (claimV zeroC (.slice none 0 0)).toArray = W9 at hz9 hq9 ⊢
        have HZ9 := Lib.hid hz9
        have HQ9 := Lib.hid hq9
        clear hz9 hq9 x0 x1 x2 x3 x4
        go_wp2_with fail
        refine bodyPost_ret (v := .tuple #[.agg (claimV zeroC (.slice none 0 0)).toArray, .bool false]) ?_ rfl (by rw [HNo.out]; exact ⟨rfl, HQ9.out⟩)
        exact results_cell_row2 rfl _ _ N 78 _ (0, 0) _ _ (by rfl) (by rfl) HZ9.out Tryz.underlying78 rfl (infoPts _ _)
      have HQb : Hid ((if SG.all chrX = true then some ⟨IR, DR, RR, SG, splitC 59 LS⟩ else none) = q) := Lib.hid (by rw [← HQa.out, if_pos hD9])
      have g8 : ((SG.length : Int) == 64) = true := by rw [beq_iff_eq]; omega
      have g8' : ((SG.length : Int) != 64) = false := by rw [bne, g8]; rfl
      clear HQa
      have HD9 := Lib.hid hD9
      clear hD9
      go_upto_region 32 with (fail)
      have hD9 := HD9.out
      clear g8 g8'
      go_loopw [18] (fun i wr => ∃ k : Nat, k ≤ 64 ∧ i = .int .i64 (k : Int) ∧ Hid ((SG.take k).all chrX = true) ∧ wr = wc) (fun i _ => 64 - (intOf i).toNat)
      case atStart => exact ⟨0, by omega, rfl, Lib.hid (by simp), rfl⟩
      case round =>
        obtain ⟨k, hk, rfl, HAl, rfl⟩ := hrel
        by_cases hlt : k < 64
        · have g1 : decide ((k : Int) < 64) = true := by simp; omega
          have hkl : k < SG.length := by omega
          have HSN := Lib.hid (all_snocW SG k hkl chrX)
          have HB := Lib.hid (fun h => all_bad (p := chrX) hkl h)
          obtain ⟨b, hgb⟩ : ∃ b, gB SG k = b := ⟨_, rfl⟩
          rw [hgb] at HSN HB
          have HOK := Lib.hid (chrX_nat b)
          have hb8 := b.toNat_lt
          have hcs : ((b.toNat : Int) < 48) ∨ ((57 : Int) < b.toNat ∧ (b.toNat : Int) < 97) ∨ ((102 : Int) < b.toNat) ∨ ((48 : Int) ≤ b.toNat ∧ (b.toNat : Int) ≤ 57) ∨ ((97 : Int) ≤ b.toNat ∧ (b.toNat : Int) ≤ 102) := by omega
          rcases hcs with h | h | h | h | h
          ·
            have HNo : Hid (q = none) := Lib.hid (by
              rw [← HQb.out, if_neg (fun hh => by rw [HB.out (by rw [Bool.eq_false_iff]; intro e; have := HOK.out.1 e; omega)] at hh; cases hh)])
            have q1 : decide ((48 : Int) ≤ (b.toNat : Int)) = false := by simp; omega
            have q3 : decide ((97 : Int) ≤ (b.toNat : Int)) = false := by simp; omega
            clear HOK HSN HB HAl
            obtain ⟨x0, x1, x2, x3, x4⟩ := HA6.out.x.c
            simp only [zeroC] at x0 x1 x2 x3 x4
            go_wp2_with (refine wpList_store_row rfl 78 _ _ rfl N (claimV zeroC (.slice none 0 0)).toArray (by rfl) (by rfl) 78 _ HA6.out.z (infoPts _ _) rfl (claimV_one _ _ _ _) ?_)
            have hz9 := HA6.out.z.row zeroC (.slice none 0 0)
            have hq9 : Q w (wr.setRow N (claimV zeroC (.slice none 0 0)).toArray) := ((GX.refl [N] wr).setRow (by simp) _).toQ HA6.out.q (fun k hk => by have := HA6.out.lo; simp at hk; omega)
            generalize wr.setRow N (claimV zeroC (.slice none 0 0)).toArray = W9 at hz9 hq9 ⊢
            have HZ9 := Lib.hid hz9
            have HQ9 := Lib.hid hq9
            clear hz9 hq9 x0 x1 x2 x3 x4
            go_wp2_with fail
            refine bodyPost_ret (v := .tuple #[.agg (claimV zeroC (.slice none 0 0)).toArray, .bool false]) ?_ rfl (by rw [HNo.out]; exact ⟨rfl, HQ9.out⟩)
            exact results_cell_row2 rfl _ _ N 78 _ (0, 0) _ _ (by rfl) (by rfl) HZ9.out Tryz.underlying78 rfl (infoPts _ _)
          ·
            have HNo : Hid (q = none) := Lib.hid (by
              rw [← HQb.out, if_neg (fun hh => by rw [HB.out (by rw [Bool.eq_false_iff]; intro e; have := HOK.out.1 e; omega)] at hh; cases hh)])
            have q1 : decide ((48 : Int) ≤ (b.toNat : Int)) = true := by simp; omega
            have q2 : decide ((b.toNat : Int) ≤ 57) = false := by simp; omega
            have q3 : decide ((97 : Int) ≤ (b.toNat : Int)) = false := by simp; omega
            clear HOK HSN HB HAl
            obtain ⟨x0, x1, x2, x3, x4⟩ := HA6.out.x.c
            simp only [zeroC] at x0 x1 x2 x3 x4
            go_wp2_with (refine wpList_store_row rfl 78 _ _ rfl N (claimV zeroC (.slice none 0 0)).toArray (by rfl) (by rfl) 78 _ HA6.out.z (infoPts _ _) rfl (claimV_one _ _ _ _) ?_)
            have hz9 := HA6.out.z.row zeroC (.slice none 0 0)
            have hq9 : Q w (wr.setRow N (claimV zeroC (.slice none 0 0)).toArray) := ((GX.refl [N] wr).setRow (by simp) _).toQ HA6.out.q (fun k hk => by have := HA6.out.lo; simp at hk; omega)
            generalize wr.setRow N (claimV zeroC (.slice none 0 0)).toArray = W9 at hz9 hq9 ⊢
            have HZ9 := Lib.hid hz9
            have HQ9 := Lib.hid hq9
            clear hz9 hq9 x0 x1 x2 x3 x4
            go_wp2_with fail
            refine bodyPost_ret (v := .tuple #[.agg (claimV zeroC (.slice none 0 0)).toArray, .bool false]) ?_ rfl (by rw [HNo.out]; exact ⟨rfl, HQ9.out⟩)
            exact results_cell_row2 rfl _ _ N 78 _ (0, 0) _ _ (by rfl) (by rfl) HZ9.out Tryz.underlying78 rfl (infoPts _ _)
          ·
            have HNo : Hid (q = none) := Lib.hid (by
              rw [← HQb.out, if_neg (fun hh => by rw [HB.out (by rw [Bool.eq_false_iff]; intro e; have := HOK.out.1 e; omega)] at hh; cases hh)])
            have q1 : decide ((48 : Int) ≤ (b.toNat : Int)) = true := by simp; omega
            have q2 : decide ((b.toNat : Int) ≤ 57) = false := by simp; omega
            have q3 : decide ((97 : Int) ≤ (b.toNat : Int)) = true := by simp; omega
            have q4 : decide ((b.toNat : Int) ≤ 102) = false := by simp; omega
            clear HOK HSN HB HAl
            obtain ⟨x0, x1, x2, x3, x4⟩ := HA6.out.x.c
            simp only [zeroC] at x0 x1 x2 x3 x4
            go_wp2_with (refine wpList_store_row rfl 78 _ _ rfl N (claimV zeroC (.slice none 0 0)).toArray (by rfl) (by rfl) 78 _ HA6.out.z (infoPts _ _) rfl (claimV_one _ _ _ _) ?_)
            have hz9 := HA6.out.z.row zeroC (.slice none 0 0)
            have hq9 : Q w (wr.setRow N (claimV zeroC (.slice none 0 0)).toArray) := ((GX.refl [N] wr).setRow (by simp) _).toQ HA6.out.q (fun k hk => by have := HA6.out.lo; simp at hk; omega)
            generalize wr.setRow N (claimV zeroC (.slice none 0 0)).toArray = W9 at hz9 hq9 ⊢
            have HZ9 := Lib.hid hz9
            have HQ9 := Lib.hid hq9
            clear hz9 hq9 x0 x1 x2 x3 x4
            go_wp2_with fail
            refine bodyPost_ret (v := .tuple #[.agg (claimV zeroC (.slice none 0 0)).toArray, .bool false]) ?_ rfl (by rw [HNo.out]; exact ⟨rfl, HQ9.out⟩)
            exact results_cell_row2 rfl _ _ N 78 _ (0, 0) _ _ (by rfl) (by rfl) HZ9.out Tryz.underlying78 rfl (infoPts _ _)
          ·
            have HA2 : Hid ((SG.take (k + 1)).all chrX = true) := Lib.hid (by rw [HSN.out, HAl.out, HOK.out.2 (by omega)]; rfl)
            have q1 : decide ((48 : Int) ≤ (b.toNat : Int)) = true := by simp; omega
            have q2 : decide ((b.toNat : Int) ≤ 57) = true := by simp; omega
            clear HOK HSN HB
            go_wp2_with fail
            go_roundw
            case rel => exact ⟨k + 1, by omega, by go_num, HA2, trivial⟩
            case measure => simp [intOf]; omega
          ·
            have HA2 : Hid ((SG.take (k + 1)).all chrX = true) := Lib.hid (by rw [HSN.out, HAl.out, HOK.out.2 (by omega)]; rfl)
            have q1 : decide ((48 : Int) ≤ (b.toNat : Int)) = true := by simp; omega
            have q2 : decide ((b.toNat : Int) ≤ 57) = false := by simp; omega
            have q3 : decide ((97 : Int) ≤ (b.toNat : Int)) = true := by simp; omega
            have q4 : decide ((b.toNat : Int) ≤ 102) = true := by simp; omega
            clear HOK HSN HB
            go_wp2_with fail
            go_roundw
            case rel => exact ⟨k + 1, by omega, by go_num, HA2, trivial⟩
            case measure => simp [intOf]; omega
        · obtain rfl : k = 64 := by omega
          have HQc : Hid (some ⟨IR, DR, RR, SG, splitC 59 LS⟩ = q) := Lib.hid (by
            rw [← HQb.out, if_pos]
            rw [← HAl.out, List.take_of_length_le (by omega)])
          clear hlt hk HAl HQb
          have HA7 := Lib.hid (HA6.out.row ⟨IR, DR, RR, SG, []⟩ (.slice none 0 0))
          have hx6 := HA6.out.x
          have HX6 := Lib.hid hx6
          clear hx6
          go_upto_region 37 with (refine wpList_store_row rfl 78 _ _ rfl (N + 1) (claimV ⟨IR, DR, RR, SG, []⟩ (.slice none 0 0)).toArray (by rfl) (by rfl) 78 _ HX6.out (infoPts _ _) rfl (claimV_one _ _ _ _) ?_)
          generalize wr.setRow (N + 1) (claimV ⟨IR, DR, RR, SG, []⟩ (.slice none 0 0)).toArray = W0 at HA7 ⊢
          have HL0 : Hid (ApL w W0 W0 N ⟨IR, DR, RR, SG, []⟩ (.slice none 0 0) []) := Lib.hid ⟨HA7.out, HA7.out.x.lt, Nat.le_refl _, by unfold OwnS; exact ⟨by simp, .inl ⟨rfl, rfl⟩⟩⟩
          clear HX6 HA6 HA7 hD8 hD9 HD8 HD9
          simp only [Act.put]
          rw [show ((64 : Nat) : Int) = 64 from rfl]
          go_loopw [17] (fun L wr => ∃ (l : List UInt8) (us : List (List UInt8)) (v : Value), L = .string ⟨l.toArray⟩ ∧ l.length ≤ 1060000 ∧ us.length + l.length ≤ 1060000 ∧ Hid (splitC 59 LS = us ++ splitC 59 l) ∧ Hid (ApL w W0 wr N ⟨IR, DR, RR, SG, []⟩ v us)) (fun L _ => strN L)
          case atStart => exact ⟨LS, [], _, rfl, hls, by simp; omega, Lib.hid rfl, HL0⟩
          case round =>
            obtain ⟨l, us, v, rfl, hl, hus, HSP, HLr⟩ := hrel
            clear HL0
            have h1 := fun W => HUP.out l 59 W (by omega)
            have HSC := Lib.hid (split_cut 59 l)
            have hcl := cutB_len 59 l
            obtain ⟨PP, hPP⟩ : ∃ x, uptoP 59 l = x := ⟨_, rfl⟩
            obtain ⟨PR, hPR⟩ : ∃ x, uptoR 59 l = x := ⟨_, rfl⟩
            obtain ⟨BB, hBB⟩ : ∃ x, uptoB 59 l = x := ⟨_, rfl⟩
            obtain ⟨RS, hRS⟩ : ∃ x, uptoS 59 l = x := ⟨_, rfl⟩
            have hpr : BB = true → PR = PP := fun h => by rw [← hPR, ← hPP]; unfold uptoR; rw [hBB, if_pos h]
            have hcl2 : BB = true → RS.length + 1 ≤ l.length := fun h => by
              have := hcl.1 (hBB.trans h)
              rw [← hRS]; show (cutB 59 l).2.1.length + 1 ≤ _; omega
            rw [hPR, hBB, hRS] at h1
            rw [hPP, hBB, hRS] at HSC
            have HPR := Lib.hid hpr
            clear hPP hPR hBB hRS hcl hpr
            go_wp2_with fail
            refine (h1 _).mono ?_
            rintro e wz ⟨rfl, hq⟩
            have HLz := Lib.hid (HLr.out.mv hq)
            clear hq h1 HLr
            rcases BB with _ | _
            · have hx4 := HLz.out.a.x.c.2.2.2.2
              have hx5 := HLz.out.a.x.f 4
              have HUS : Hid ((us.map strV).length ≤ 1100000) := Lib.hid (by simp; omega)
              have HSP2 : Hid (splitC 59 LS = us ++ [l]) := Lib.hid (by rw [HSP.out, HSC.out]; simp)
              clear HSP HSC HPR hcl2
              go_wp2_with (at_builtin; refine wpList_append_t rfl (.tmp 182) (.tmp 184) rfl W0 wz _ _ l rfl HLz.out.o rfl HLz.out.s HUS.out ?_)
              intro v9 w9 ho9 hg9
              have ho9' : OwnS 9 W0 w9 v9 ((us ++ [l]).map strV) := by simpa using ho9
              obtain ⟨A9, k9, rfl, hc9, hn9⟩ := ho9'.nm
              obtain ⟨NL, hNL⟩ : ∃ n, (us ++ [l]).length = n := ⟨_, rfl⟩
              rw [hNL] at ho9 ⊢
              have HNL := Lib.hid hNL
              clear ho9' hc9 hn9 hNL
              have hgr := HLz.out.grown hg9
              have c9 := hgr.x.c.2.2.2.2
              have f9 := hgr.x.f 4
              have HL9 := Lib.hid (HLz.out.step ho9 hg9)
              clear ho9 hg9 hgr hx4 hx5 HLz HUS
              go_upto_region 40 with (fail)
              obtain ⟨A8, k8, e8, hc9, hn9⟩ := HL9.out.o.nm
              injection e8 with e1 e2 e3
              rw [← e1, ← e2] at hn9
              rw [← e2, ← e3] at hc9
              clear e1 e2 e3
              have HN9 := Lib.hid hn9
              have HC9 := Lib.hid hc9
              clear c9 f9 hn9 hc9
              generalize w9.setCell ⟨N + 1, 4, none⟩ (.slice A9 NL k9) = Wa at HL9 HN9 ⊢
              obtain ⟨x0, x1, x2, x3, x4⟩ := HL9.out.a.x.c
              simp only at x0 x1 x2 x3 x4
              go_wp2_with (refine wpList_store_row rfl 78 _ _ rfl N (claimV ⟨IR, DR, RR, SG, []⟩ (.slice A9 NL k9)).toArray (by rfl) (by rfl) 78 _ HL9.out.a.z (infoPts _ _) rfl (claimV_one _ _ _ _) ?_)
              have hz9 := HL9.out.a.z.row ⟨IR, DR, RR, SG, []⟩ (.slice A9 NL k9)
              have hgz : GX [N] Wa (Wa.setRow N (claimV ⟨IR, DR, RR, SG, []⟩ (.slice A9 NL k9)).toArray) := (GX.refl [N] Wa).setRow (by simp) _
              have hq9 : Q w (Wa.setRow N (claimV ⟨IR, DR, RR, SG, []⟩ (.slice A9 NL k9)).toArray) := hgz.toQ HL9.out.a.q (fun k hk => by have := HL9.out.a.lo; simp at hk; omega)
              have hnz : NmAt (Wa.setRow N (claimV ⟨IR, DR, RR, SG, []⟩ (.slice A9 NL k9)).toArray) A9 NL (us ++ [l]) := HN9.out.gx hgz (fun g off e => by
                have h1 := HL9.out.own (k := g) (by rw [e]; rfl)
                have h2 := HL9.out.b
                simp; omega)
              generalize Wa.setRow N (claimV ⟨IR, DR, RR, SG, []⟩ (.slice A9 NL k9)).toArray = Wb at hz9 hq9 hnz ⊢
              have HZ9 := Lib.hid hz9
              have HQ9 := Lib.hid hq9
              have HNz := Lib.hid hnz
              clear hz9 hq9 hnz hgz x0 x1 x2 x3 x4
              go_wp2_with fail
              refine bodyPost_ret (v := .tuple #[.agg (claimV ⟨IR, DR, RR, SG, []⟩ (.slice A9 NL k9)).toArray, .bool true]) ?_ rfl ?_
              · exact results_cell_row2 rfl _ _ N 78 _ (0, 0) _ _ (by rfl) (by rfl) HZ9.out Tryz.underlying78 rfl (infoPts _ _)
              · rw [← HQc.out]
                refine ⟨A9, k9, ?_, ?_, ?_, HQ9.out⟩
                · rw [HSP2.out, HNL.out]; rfl
                · rw [HSP2.out, HNL.out]; exact HC9.out
                · rw [HSP2.out, HNL.out]; exact HNz.out
            · have hl2 := hcl2 rfl
              have hx4 := HLz.out.a.x.c.2.2.2.2
              have hx5 := HLz.out.a.x.f 4
              have e1 := HPR.out rfl
              rw [e1]
              have HUS : Hid ((us.map strV).length ≤ 1100000) := Lib.hid (by simp; omega)
              have HSP2 : Hid (splitC 59 LS = (us ++ [PP]) ++ splitC 59 RS) := Lib.hid (by rw [HSP.out, HSC.out]; simp)
              clear HSP HSC HPR hcl2 e1
              go_wp2_with (at_builtin; refine wpList_append_t rfl (.tmp 189) (.tmp 191) rfl W0 wz _ _ PP rfl HLz.out.o rfl HLz.out.s HUS.out ?_)
              intro v9 w9 ho9 hg9
              have ho9' : OwnS 9 W0 w9 v9 ((us ++ [PP]).map strV) := by simpa using ho9
              obtain ⟨A9, k9, rfl, hc9, hn9⟩ := ho9'.nm
              obtain ⟨NL, hNL⟩ : ∃ n, (us ++ [PP]).length = n := ⟨_, rfl⟩
              rw [hNL] at ho9 ⊢
              have HNL := Lib.hid hNL
              clear ho9' hc9 hn9 hNL
              have hgr := HLz.out.grown hg9
              have c9 := hgr.x.c.2.2.2.2
              have f9 := hgr.x.f 4
              have HL9 := Lib.hid (HLz.out.step ho9 hg9)
              clear ho9 hg9 hgr hx4 hx5 HLz HUS
              go_wp2_with fail
              go_roundw
              case rel => exact ⟨RS, us ++ [PP], _, rfl, by omega, by simp; omega, HSP2, HL9⟩
              case measure => simp [strN, ByteArray.size]; omega
end Go.Proofs.YtmmoenbmgcplkaaGreatDoor
set_option linter.unusedVariables false
namespace Go.Proofs.YtmmoenbmgcplkaaGreatDoor
open Go Go.RowKit
set_option maxRecDepth 100000 in
set_option maxHeartbeats 4000000 in
theorem Stamp17R (t : Int) (w : World) (h0 : 0 ≤ t) (h1 : t ≤ 253402300799) : Calls Tryz.prog 51 #[.int .i64 t] w fun e w' => e = .returned (.string ⟨(stampL t).toArray⟩) ∧ Q w w' := by
  obtain ⟨⟨y0, y1⟩, ⟨m0, m1⟩, ⟨d0, d1⟩, ⟨o0, o1⟩, ⟨i0, i1⟩, ⟨s0, s1⟩⟩ := parts_bd t h0 h1
  have hs : stampL t = d4 (civY (zI t)) ++ d2 (civM (zI t)) ++ d2 (civD (zI t)) ++ [84] ++ d2 (hoI t) ++ d2 (miI t) ++ d2 (seI t) ++ [90] := rfl
  have HS := Lib.hid hs
  clear hs
  go_enter Tryz.func51, Tryz.ntmps51
  go_wp2_with fail
  with_reducible refine (Apart_ok t _ h0 h1).mono ?_
  rintro e w1 ⟨rfl, hq1⟩
  go_upto_region 2 with (refine wpList_store_row rfl 133 (.tmp 3) (.tmp 5) (by rfl) w1.heap.size (whenV t) (by rfl) (by rfl) 133 _ (heap_alloc_new w1 _) (infoWT t) rfl (allWT t) ?_)
  obtain ⟨w3, hw3, hT3, hq3⟩ := whenT_start w1 _ t
  rw [← hw3]
  clear hw3
  simp only [Act.put]
  obtain ⟨g, hg⟩ : ∃ g, g = w1.heap.size := ⟨_, rfl⟩
  rw [← hg] at hT3 ⊢
  clear hg
  have HT := Lib.hid (fun (w' : World) (h : ∃ m : QW w3, w' = m.val) => (by obtain ⟨m, rfl⟩ := h; exact hT3.q m.le : WhenT w' g t))
  have c0 := hT3.c0
  have c1 := hT3.c1
  have c2 := hT3.c2
  have c3 := hT3.c3
  have c4 := hT3.c4
  have c5 := hT3.c5
  have c6 := hT3.c6
  have HQ := Lib.hid (hq1.trans hq3)
  clear hT3 hq1 hq3
  generalize civY (zI t) = Y at *
  generalize civM (zI t) = M at *
  generalize civD (zI t) = D at *
  generalize hoI t = o at *
  generalize miI t = i at *
  generalize seI t = s at *
  have y0' := fun m : QW w3 => m.cell c0
  have y1' := fun m : QW w3 => m.cell c1
  have y2' := fun m : QW w3 => m.cell c2
  have y4' := fun m : QW w3 => m.cell c4
  have y5' := fun m : QW w3 => m.cell c5
  have y6' := fun m : QW w3 => m.cell c6
  clear c0 c1 c2 c3 c4 c5 c6
  refine wp_region_q (by kernel_rfl) (by kernel_rfl) ?_
  (repeat (go_big_quiet_step ((go_at_call 91; exact calls_qs (digitsI _ _ _ (by omega) (by omega) (by decide) (by decide))))))
  refine wpQuiet_nil ?_
  rintro wx ⟨mx, hmx⟩
  have hqx : Q w wx := by rw [hmx]; exact HQ.out.trans mx.le
  have HQX := Lib.hid hqx
  clear hmx mx hqx y0' y1' y2' y4' y5' y6'
  go_wp2_with fail
  go_ret
  exact ⟨by rw [HS.out]; simp [← digL_2, ← digL_4], HQX.out⟩
set_option maxRecDepth 100000 in
set_option maxHeartbeats 4000000 in
theorem ReadStamp17R (l : List UInt8) (w : World) (hl : l.length ≤ 140737488355328) : Calls Tryz.prog 54 #[.string ⟨l.toArray⟩] w (ReadRPost l stampL w) := by
  have hb := joinI_bd (nr l 0 4) (nr l 4 2) (nr l 6 2) (nr l 9 2) (nr l 11 2) (nr l 13 2)
  have hj := fun t h0 h1 ht => joinedStamp l t h0 h1 ht
  have HJ := Lib.hid hj
  clear hj
  go_enter Tryz.func54, Tryz.ntmps54
  go_wp2_with fail
  with_reducible refine (numR_nr l 0 4 _ (by decide) (by decide) (by decide) (by decide) hl).mono ?_
  rintro e w' ⟨rfl, rfl⟩
  go_wp2_with fail
  with_reducible refine (numR_nr l 4 2 _ (by decide) (by decide) (by decide) (by decide) hl).mono ?_
  rintro e w' ⟨rfl, rfl⟩
  go_wp2_with fail
  with_reducible refine (numR_nr l 6 2 _ (by decide) (by decide) (by decide) (by decide) hl).mono ?_
  rintro e w' ⟨rfl, rfl⟩
  go_wp2_with fail
  with_reducible refine (numR_nr l 9 2 _ (by decide) (by decide) (by decide) (by decide) hl).mono ?_
  rintro e w' ⟨rfl, rfl⟩
  go_wp2_with fail
  with_reducible refine (numR_nr l 11 2 _ (by decide) (by decide) (by decide) (by decide) hl).mono ?_
  rintro e w' ⟨rfl, rfl⟩
  go_wp2_with fail
  with_reducible refine (numR_nr l 13 2 _ (by decide) (by decide) (by decide) (by decide) hl).mono ?_
  rintro e w' ⟨rfl, rfl⟩
  go_wp2_with fail
  with_reducible refine (rjoin_any _ _ _ _ _ _ _).mono ?_
  rintro e w' ⟨rfl, rfl⟩
  generalize joinI (nr l 0 4) (nr l 4 2) (nr l 6 2) (nr l 9 2) (nr l 11 2) (nr l 13 2) = T at *
  rcases hb with rfl | ⟨hT0, hT1⟩
  · go_wp2_with fail
    go_ret
    exact ⟨-1, rfl, .inr ⟨rfl, fun t h0 h1 ht => by have := HJ.out t h0 h1 ht; omega⟩, Q.refl _⟩
  · have t0 : decide (T < 0) = false := by simp; omega
    by_cases hS : stampL T = l
    · go_wp2_with fail
      with_reducible refine (Stamp17R T _ hT0 hT1).mono ?_
      rintro e w1 ⟨rfl, hq1⟩
      rw [hS]
      have HS := Lib.hid hS
      clear hS
      go_wp2_with fail
      go_ret
      exact ⟨T, rfl, .inl ⟨⟨hT0, hT1⟩, HS.out⟩, hq1⟩
    · have hno : RrSays l stampL (-1) := .inr ⟨rfl, fun t h0 h1 ht => hS (by rw [HJ.out t h0 h1 ht]; exact ht)⟩
      have HNO := Lib.hid hno
      clear hno
      go_wp2_with fail
      with_reducible refine (Stamp17R T _ hT0 hT1).mono ?_
      rintro e w1 ⟨rfl, hq1⟩
      generalize stampL T = S at *
      have tne : (S == l) = false := by simpa using hS
      clear hS
      go_wp2_with fail
      go_ret
      exact ⟨-1, rfl, HNO.out, hq1⟩
end Go.Proofs.YtmmoenbmgcplkaaGreatDoor
