/- Texts of this proof, laid into one: KbB, Qt, KbC, KbD, KbE, Gy, Byt. -/
import Derived.Test.YtlhhiiemojhjdaaGreatDoorMt02
import Derived.Lib.Hide
import Derived.WalkSmall
import Derived.Deep.DeepCutAuto
import Derived.StillTail
import Derived.Test.YtlhhiiemojhjdaaGreatDoorShelf
import Derived.Shelf.Strings.SlTrimAscii
import Derived.Deep.LoopGhost
import Derived.Laws.IdiomStrings
import Derived.Maps.AppendAt
import Derived.Lib.BufferRead
set_option linter.unusedVariables false
set_option linter.unusedSimpArgs false
namespace Go.Proofs.YtlhhiiemojhjdaaGreatDoor
open Go Go.RowKit
def FaultJ (w : World) (b : Nat) (c a : Int) : Prop := w.heap[b]? = some (.cells #[.int .i64 c, .int .i64 a, .nilIface] 36 (0, 0))
theorem FaultJ.q {w w' : World} {b : Nat} {c a : Int} (h : FaultJ w b c a) (hq : Q w w') : FaultJ w' b c a := hq.block h
def RdB (w : World) (b : Nat) (s : Txt) (p : Nat) : Prop := w.heap[b]? = some (.cells #[.string ⟨s.toArray⟩, .int .i64 (p : Int)] 96 (0, 0))
theorem RdB.q {w w' : World} {b : Nat} {s : Txt} {p : Nat} (h : RdB w b s p) (hq : Q w w') : RdB w' b s p := hq.block h
theorem RdB.c0 {w : World} {b : Nat} {s : Txt} {p : Nat} (h : RdB w b s p) : w.cell? ⟨b, 0, none⟩ = some (.string ⟨s.toArray⟩) := by rw [cell_of_row _ _ _ _ _ _ h]; rfl
theorem RdB.c1 {w : World} {b : Nat} {s : Txt} {p : Nat} (h : RdB w b s p) : w.cell? ⟨b, 1, none⟩ = some (.int .i64 (p : Int)) := by rw [cell_of_row _ _ _ _ _ _ h]; rfl
theorem RdB.f {w : World} {b : Nat} {s : Txt} {p : Nat} (h : RdB w b s p) (i : Nat) : w.frozen? ⟨b, i, none⟩ = false := frozen_of_row w b i _ _ h
theorem RdB.lt {w : World} {b : Nat} {s : Txt} {p : Nat} (h : RdB w b s p) : b < w.heap.size := lt_of_heap h
theorem RdB.set {w : World} {b : Nat} {s : Txt} {p : Nat} (h : RdB w b s p) (q : Nat) : RdB (w.setCell ⟨b, 1, none⟩ (.int .i64 (q : Int))) b s q := by
  unfold RdB at h ⊢
  simp [World.setCell, Array.getElem?_modify, h]
def Gave (b : Nat) (s : Txt) (c n : Nat) (w : World) (e : Ending) (w' : World) : Prop :=
  (∃ bf, e = .panicked [{ v := .iface 32 (.pointer (some ⟨bf, 0, none⟩)), recovered := false }] ∧ FaultJ w' bf c ((s.length - n : Nat) : Int)) ∧ GX [b] w w'
theorem fail_any (c a : Int) (w : World) : Calls Tryz.prog 46 #[.int .i64 c, .int .i64 a] w fun e w' =>
    (∃ bf, e = .panicked [{ v := .iface 32 (.pointer (some ⟨bf, 0, none⟩)), recovered := false }] ∧ FaultJ w' bf c a) ∧ Q w w' := by
  go_enter Tryz.func46, Tryz.ntmps46
  go_wp2_with fail
  exact ⟨rfl, ⟨_, rfl, heap_alloc_new w _⟩, (Q.refl w).alloc _⟩
theorem hd_drop {s : Txt} {p : Nat} (h : p < s.length) : hdB (s.drop p) = gB s p := by rw [drop_at h]; rfl
theorem hd_drop_end {s : Txt} {p : Nat} (h : s.length ≤ p) : hdB (s.drop p) = 0 := by rw [List.drop_of_length_le h]; rfl
set_option maxRecDepth 100000 in
theorem peek_any (b : Nat) (s : Txt) (p : Nat) (w : World) (h : RdB w b s p) (hp : p ≤ s.length) (hl : s.length ≤ 140737488355328) :
    Calls Tryz.prog 59 #[.pointer (some ⟨b, 0, none⟩)] w fun e w' => e = .returned (.int .u8 ((hdB (s.drop p)).toNat : Int)) ∧ Q w w' := by
  have c0 : ∀ mm : QW w, mm.val.cell? ⟨b, 0, none⟩ = some (.string ⟨s.toArray⟩) := fun mm => mm.cell h.c0
  have c1 : ∀ mm : QW w, mm.val.cell? ⟨b, 1, none⟩ = some (.int .i64 (p : Int)) := fun mm => mm.cell h.c1
  have H := Lib.hid h
  clear h
  by_cases hlt : p < s.length
  · have g1 : decide (p < s.length) = true := by simpa using hlt
    have HE := Lib.hid (hd_drop hlt)
    go_enter Tryz.func59, Tryz.ntmps59
    go_upto_region 1 with (fail)
    refine wp_region_q (by kernel_rfl) (by kernel_rfl) ?_
    (repeat (go_big_quiet_step (fail)))
    refine wpQuiet_nil ?_
    rintro w1 ⟨m1, hm1⟩
    have hq1 : Q w w1 := by rw [hm1]; exact m1.le
    clear m1 hm1 c0 c1
    have c0 : ∀ mm : QW w1, mm.val.cell? ⟨b, 0, none⟩ = some (.string ⟨s.toArray⟩) := fun mm => mm.cell (H.out.q hq1).c0
    have c1 : ∀ mm : QW w1, mm.val.cell? ⟨b, 1, none⟩ = some (.int .i64 (p : Int)) := fun mm => mm.cell (H.out.q hq1).c1
    have HQ1 := Lib.hid hq1
    clear hq1
    go_upto_region 2 with (fail)
    refine wp_region_q (by kernel_rfl) (by kernel_rfl) ?_
    (repeat (go_big_quiet_step (fail)))
    refine wpQuiet_nil ?_
    rintro w2 ⟨m2, hm2⟩
    have HQ2 : Hid (Q w w2) := Lib.hid (HQ1.out.trans (by rw [hm2]; exact m2.le))
    clear m2 hm2 c0 c1
    go_wp2_with fail
    go_ret
    exact ⟨by rw [HE.out]; rfl, HQ2.out⟩
  · have g1 : decide (p < s.length) = false := by simpa using hlt
    have HE := Lib.hid (hd_drop_end (s := s) (p := p) (by omega))
    clear hlt
    go_enter Tryz.func59, Tryz.ntmps59
    go_upto_region 1 with (fail)
    refine wp_region_q (by kernel_rfl) (by kernel_rfl) ?_
    (repeat (go_big_quiet_step (fail)))
    refine wpQuiet_nil ?_
    rintro w1 ⟨m1, hm1⟩
    have hq1 : Q w w1 := by rw [hm1]; exact m1.le
    clear m1 hm1 c0 c1
    have HQ1 := Lib.hid hq1
    clear hq1
    go_wp2_with fail
    go_ret
    exact ⟨by rw [HE.out]; rfl, HQ1.out⟩
def UnitP (b : Nat) (s : Txt) (a : PR Unit) (w : World) (e : Ending) (w' : World) : Prop :=
  match a with
  | .ok _ r => e = .returned (.tuple #[]) ∧ (∃ q, q ≤ s.length ∧ s.drop q = r ∧ RdB w' b s q) ∧ GX [b] w w'
  | .bad c n => Gave b s c n w e w'
theorem take_drop {s : Txt} {p : Nat} (c : UInt8) (h : p < s.length) : takeR c (s.drop p) = if gB s p = c then .ok () (s.drop (p + 1)) else .bad 54 (s.length - p) := by
  rw [drop_at h, takeR]
  split
  · rfl
  · rw [List.length_drop]; congr 1; omega
theorem take_end {s : Txt} {p : Nat} (c : UInt8) (h : s.length ≤ p) : takeR c (s.drop p) = .bad 54 0 := by rw [List.drop_of_length_le h]; rfl
set_option maxRecDepth 100000 in
theorem take_any (b : Nat) (s : Txt) (p : Nat) (c : UInt8) (w : World) (h : RdB w b s p) (hp : p ≤ s.length) (hl : s.length ≤ 140737488355328) :
    Calls Tryz.prog 64 #[.pointer (some ⟨b, 0, none⟩), .int .u8 (c.toNat : Int)] w (UnitP b s (takeR c (s.drop p)) w) := by
  have c0 : ∀ mm : QW w, mm.val.cell? ⟨b, 0, none⟩ = some (.string ⟨s.toArray⟩) := fun mm => mm.cell h.c0
  have c1 : ∀ mm : QW w, mm.val.cell? ⟨b, 1, none⟩ = some (.int .i64 (p : Int)) := fun mm => mm.cell h.c1
  have H := Lib.hid h
  have HNo : Hid (∀ k, takeR c (s.drop p) = .bad 54 k → s.length - k = p → ∀ (w1 w2 : World) bf, Q w w1 → FaultJ w2 bf 54 (p : Int) → Q w1 w2 → UnitP b s (takeR c (s.drop p)) w (.panicked [{ v := .iface 32 (.pointer (some ⟨bf, 0, none⟩)), recovered := false }]) w2) := Lib.hid (fun k e hk w1 w2 bf h1 hf h2 => by
    rw [e]; exact ⟨⟨bf, rfl, by rw [hk]; exact hf⟩, GX.q (h1.trans h2)⟩)
  clear h
  by_cases hlt : p < s.length
  · have g1 : decide (s.length ≤ p) = false := by simpa using hlt
    have hlt' : decide (p < s.length) = true := by simpa using hlt
    by_cases hc : gB s p = c
    · have HE : Hid (takeR c (s.drop p) = .ok () (s.drop (p + 1))) := Lib.hid (by rw [take_drop c hlt, if_pos hc])
      have g2 : (((gB s p).toNat : Int) != (c.toNat : Int)) = false := by rw [hc]; simp
      clear hc HNo
      go_enter Tryz.func64, Tryz.ntmps64
      go_upto_region 0 with (fail)
      refine wp_region_q (by kernel_rfl) (by kernel_rfl) ?_
      (repeat (go_big_quiet_step (fail)))
      refine wpQuiet_nil ?_
      rintro w1 ⟨m1, hm1⟩
      have hq1 : Q w w1 := by rw [hm1]; exact m1.le
      clear m1 hm1 c0 c1
      have c1 := (H.out.q hq1).c1
      have f1 := (H.out.q hq1).f 1
      have HR : Hid (RdB (w1.setCell ⟨b, 1, none⟩ (.int .i64 ((p : Int) + 1))) b s (p + 1)) := Lib.hid (by have := (H.out.q hq1).set (p + 1); simpa using this)
      have HG : Hid (GX [b] w (w1.setCell ⟨b, 1, none⟩ (.int .i64 ((p : Int) + 1)))) := Lib.hid ((GX.q hq1).set (by simp) _ _)
      clear hq1
      go_wp2_with fail
      go_end0
      rw [HE.out]
      exact ⟨rfl, ⟨p + 1, by omega, rfl, HR.out⟩, HG.out⟩
    · have g2 : (((gB s p).toNat : Int) != (c.toNat : Int)) = true := by
        simp only [bne_iff_ne, ne_eq]; intro e; exact hc (UInt8.toNat_inj.1 (by omega))
      have HN := Lib.hid (HNo.out _ (by rw [take_drop c hlt, if_neg hc]) (by omega))
      clear hc HNo
      go_enter Tryz.func64, Tryz.ntmps64
      go_upto_region 0 with (fail)
      refine wp_region_q (by kernel_rfl) (by kernel_rfl) ?_
      (repeat (go_big_quiet_step (fail)))
      refine wpQuiet_nil ?_
      rintro w1 ⟨m1, hm1⟩
      have hq1 : Q w w1 := by rw [hm1]; exact m1.le
      clear m1 hm1 c0 c1
      have c1 := (H.out.q hq1).c1
      have HQ := Lib.hid hq1
      clear hq1
      go_wp2_with fail
      refine (fail_any 54 _ _).mono ?_
      rintro e w2 ⟨⟨bf, rfl, hf⟩, hq2⟩
      have HF := Lib.hid hf
      have HQ2 := Lib.hid hq2
      clear hf hq2
      go_wp2_with fail
      exact ⟨rfl, HN.out _ _ _ HQ.out HF.out HQ2.out⟩
  · have g1 : decide (s.length ≤ p) = true := by simp; omega
    have HN := Lib.hid (HNo.out 0 (take_end c (by omega)) (by omega))
    clear hlt HNo
    go_enter Tryz.func64, Tryz.ntmps64
    go_upto_region 0 with (fail)
    refine wp_region_q (by kernel_rfl) (by kernel_rfl) ?_
    (repeat (go_big_quiet_step (fail)))
    refine wpQuiet_nil ?_
    rintro w1 ⟨m1, hm1⟩
    have hq1 : Q w w1 := by rw [hm1]; exact m1.le
    clear m1 hm1 c0 c1
    have c1 := (H.out.q hq1).c1
    have HQ := Lib.hid hq1
    clear hq1
    go_wp2_with fail
    refine (fail_any 54 _ _).mono ?_
    rintro e w2 ⟨⟨bf, rfl, hf⟩, hq2⟩
    have HF := Lib.hid hf
    have HQ2 := Lib.hid hq2
    clear hf hq2
    go_wp2_with fail
    exact ⟨rfl, HN.out _ _ _ HQ.out HF.out HQ2.out⟩
end Go.Proofs.YtlhhiiemojhjdaaGreatDoor
set_option linter.unusedVariables false
namespace Go.Proofs.YtlhhiiemojhjdaaGreatDoor
open Go Go.RowKit
section
variable {P : Program} {ops : Array Oper} {md : Region.Mode} {C : World → Prop}
def headQ (P : Program) (md : Region.Mode) (ops : Array Oper) (C : World → Prop) (n : Nat) (L : Array Bool → Act → Prop) : Nat → Array Bool → Act → Prop
  | 0, ls, a => L ls a
  | f + 1, ls, a => Region.ready md ops ls ≠ [] ∧ ∀ i ∈ Region.ready md ops ls, i < n ∧ qOp P ops C i (headQ P md ops C n L f (ls.setIfInBounds i true)) a
theorem any_of_headQ {n g : Nat} {L : Array Bool → Act → Prop} {R : Exit → Act → World → Prop} (hL : ∀ ls a w, C w → L ls a → wpAny P md ops R g ls a w) (f : Nat) :
    ∀ (ls : Array Bool) (a : Act) (w : World), C w → headQ P md ops C n L f ls a → wpAny P md ops R (f + g) ls a w := by
  induction f with
  | zero => intro ls a w hw h; rw [Nat.zero_add]; exact hL _ _ _ hw h
  | succ f ih =>
    intro ls a w hw h
    rw [Nat.add_right_comm]
    exact ⟨fun h0 => (h.1 h0).elim, fun i hi => wpOp_of_qOp hw (fun a' w' hw' hk => ih _ a' w' hw' hk) (h.2 i hi).2⟩
theorem headQ_first {n i : Nat} {oi : Oper} {v : Value} {L : Array Bool → Act → Prop} (hi : ops[i]? = some oi) (hsel : ∀ (j : Nat) (o : Oper) cs b, ops[j]? = some o → o.op ≠ .select cs b)
    (hs : Region.sinkB md ops n = true) (hc : Region.chainB md ops n = true) (hn : n < ops.size) (hin : i < n) (hdone : ∀ ls a, L ls a → ∀ j ∈ Region.ready md ops ls, n ≤ j) (f : Nat) :
    ∀ (ls : Array Bool) (a : Act), HeadInv md ops n ls →
      (∀ j oj, ops[j]? = some oj → j ≠ i → ls.getD j true = false → (∀ e ∈ oj.after, Region.binds md e = true → e.on ≠ i) → oi.apart ops oj = true) →
      i ∈ Region.ready md ops ls → YieldsIn P ops C oi v a → headQ P md ops C n L f (ls.setIfInBounds i true) (a.put oi.dst v) → headQ P md ops C n L (f + 1) ls a := by
  induction f with
  | zero =>
    intro ls a inv _ hr hy H
    have hun := (mem_ready.1 hr).1
    refine ⟨List.ne_nil_of_mem hr, fun j hj => ?_⟩
    have hjn : j < n := Nat.lt_of_not_le fun h => tail_waits hs hc hn inv _ i rfl hin hun j h hj
    by_cases e : j = i
    · rw [e] at hjn ⊢; exact ⟨hjn, hy.qOp hi H⟩
    · exact absurd (hdone _ _ H j (ready_mono hj e)) (Nat.not_le.2 hjn)
  | succ f ih =>
    intro ls a inv hfree hr hy H
    have hun := (mem_ready.1 hr).1
    refine ⟨List.ne_nil_of_mem hr, fun j hj => ?_⟩
    have hjn : j < n := Nat.lt_of_not_le fun h => tail_waits hs hc hn inv _ i rfl hin hun j h hj
    by_cases e : j = i
    · rw [e] at hjn ⊢; exact ⟨hjn, hy.qOp hi H⟩
    · refine ⟨hjn, ?_⟩
      obtain ⟨hjun, oj, hoj, hall⟩ := mem_ready.1 hj
      have hno : ∀ x ∈ oj.after, Region.binds md x = true → x.on ≠ i := by
        intro x hx hb he
        have := hall x hx hb
        rw [he, getD_both hun] at this
        cases this
      have h2 := qOp_put hoj (hfree j oj hoj e hjun hno) (fun cs b => hsel i oi cs b hi) (fun cs b => hsel j oj cs b hoj) hy (H.2 j (ready_mono hj e)).2
      refine qOp_mono (fun a' h3 => ih _ a' (inv.set hj hjn) (fun k ok hk hki hku hkn => hfree k ok hk hki ?_ hkn) (ready_mono hr (Ne.symm e)) h3.1 (by rw [Array.setIfInBounds_comm _ _ e]; exact h3.2)) h2
      by_cases hjk : j = k
      · rw [← hjk]; exact hjun
      · rwa [getD_set_ne true hjk] at hku
theorem headQ_lex {n g : Nat} {K : Act → Prop} (hsel : Region.noSelect ops = true) (hs : Region.sinkB md ops n = true) (hc : Region.chainB md ops n = true) (hn : n < ops.size) (l : List Oper) :
    ∀ (k : Nat) (ls : Array Bool) (a : Act), (∀ j, j < l.length → l[j]? = ops[k + j]?) → k + l.length = n → HeadInv md ops n ls →
    Region.lexHead md ops g l.length k ls = true → wpQuiet P ops C K l a → headQ P md ops C n (fun ls' a' => Region.seqB md ops g n ls' = true ∧ K a') l.length ls a := by
  induction l with
  | nil =>
    intro k ls a _ hk _ hB h
    have e : k = n := by simpa using hk
    exact ⟨by rw [← e]; simpa [Region.lexHead] using hB, h⟩
  | cons o l ih =>
    intro k ls a hl hk inv hB h
    have h0 : ops[k]? = some o := by simpa using (hl 0 (by simp)).symm
    simp only [List.length_cons, Region.lexHead, Bool.and_eq_true] at hB hk
    have hkn : k < n := by omega
    have hr : k ∈ Region.ready md ops ls := by simpa using hB.1.1
    have hq : qOp P ops C k (wpQuiet P ops C K l) a := by unfold qOp; simp only [h0]; exact h
    obtain ⟨v, hy, hK⟩ := yieldsIn_of_qOp h0 hq
    refine headQ_first h0 (Region.noSelect_spec hsel) hs hc hn hkn (fun ls' a' hL => seqB_ready hL.1) l.length ls a inv (Region.free_spec h0 hB.1.2) hr hy ?_
    refine ih (k + 1) _ _ (fun j hj => ?_) (by omega) (inv.set hr hkn) hB.2 hK
    have := hl (j + 1) (by simp; omega)
    simpa [Nat.add_assoc, Nat.add_comm 1 j] using this
theorem wp_region_quiet_tail {id : Nat} {R : Exit → Act → World → Prop} {a : Act} {w : World} {l : List Oper} (n : Nat) (hm : P.follows .mixedOrders = true) (hB : Region.lexTailB .any l.toArray n = true)
    (hC : C { w with drawn := w.drawn + 1 }) (h : wpQuiet P l.toArray C (fun a' => ∀ w', C w' → wpList P l.toArray R (l.drop n) a' w') (l.take n) a) : (Code.region id l.toArray true).wp P R a w := by
  simp only [Region.lexTailB, Bool.and_eq_true, decide_eq_true_eq] at hB
  have hn : n < l.length := by simpa using hB.1.1.1.2
  have htl : (l.take n).length = n := by simp; omega
  have hdl : (l.drop n).length = l.toArray.size - n := by simp
  have inv0 : HeadInv .any l.toArray n (Array.replicate l.toArray.size false) :=
    ⟨by simp, fun j oj _ hl => (by rw [getD_replicate_false] at hl; cases hl), fun t _ ht => getD_in (by simpa using ht) (getD_replicate_false _ _)⟩
  have H := headQ_lex (md := .any) (C := C) (g := l.toArray.size - n) hB.1.1.1.1 hB.1.1.2 hB.1.2 hB.1.1.1.2 (l.take n) 0 _ a (fun j hj => by rw [htl] at hj; simp [hj]) (by simpa using htl) inv0 (by rw [htl]; exact hB.2) h
  refine wp_region_any hm ?_
  have := any_of_headQ (C := C) (R := R) (g := l.toArray.size - n) (fun ls a' w' hw' hL => by
    have h1 := wpAny_of_seq (md := .any) (Q' := R) (l.drop n) n ls a' w' (fun j => by simp [List.getElem?_drop]) (by rw [hdl]; exact hL.1) (hL.2 w' hw')
    rwa [hdl] at h1) _ _ _ _ hC H
  have hsz : n + (l.toArray.size - n) = l.toArray.size := by
    have : l.toArray.size = l.length := by simp
    omega
  rwa [htl, hsz] at this
end
theorem wp_region_q_tail {P : Program} {id : Nat} {R : Exit → Act → World → Prop} {a : Act} {w : World} {l : List Oper} (n : Nat) (hm : P.follows .mixedOrders = true) (hB : Region.lexTailB .any l.toArray n = true)
    (h : wpQuiet P l.toArray (fun w' => ∃ m : QW w, w' = m.val) (fun a' => ∀ w', (∃ m : QW w, w' = m.val) → wpList P l.toArray R (l.drop n) a' w') (l.take n) a) : (Code.region id l.toArray true).wp P R a w :=
  wp_region_quiet_tail (C := fun w' => ∃ m : QW w, w' = m.val) n hm hB ⟨⟨w.drew, (Q.refl w).drew⟩, rfl⟩ h
end Go.Proofs.YtlhhiiemojhjdaaGreatDoor
set_option linter.unusedVariables false
set_option linter.unusedSimpArgs false
namespace Go.Proofs.YtlhhiiemojhjdaaGreatDoor
open Go Go.RowKit
def wsSet : Txt := [32, 9, 10, 13]
theorem trim_ws (l : Txt) : Lib.trimLeftS l wsSet = skipJ l := by
  unfold Lib.trimLeftS skipJ
  congr 1
  funext b
  unfold wsSet wsB
  rw [Bool.eq_iff_iff]
  simp only [List.contains_iff_mem, List.mem_cons, List.not_mem_nil, or_false, Bool.or_eq_true, beq_iff_eq]
  constructor
  · rintro (h | h | h | h) <;> simp [h]
  · rintro (((h | h) | h) | h) <;> simp [h]
theorem ws_ascii : ∀ (j : Nat) (b : UInt8), wsSet[j]? = some b → b.toNat < 128 := by
  intro j b h
  have hm := List.mem_of_getElem? h
  unfold wsSet at hm
  simp only [List.mem_cons, List.not_mem_nil, or_false] at hm
  rcases hm with h | h | h | h <;> (subst h; decide)
theorem trimws_any (l : Txt) (w : World) : Calls Tryz.prog 58 #[.string ⟨l.toArray⟩, .string ⟨#[32, 9, 10, 13]⟩] w fun e w' => e = .returned (.string ⟨(skipJ l).toArray⟩) ∧ Q w w' := by
  have h := Any.strings_TrimLeft_laid Tryz.lays161 (by kernel_rfl) ⟨l.toArray⟩ ⟨#[32, 9, 10, 13]⟩ w (by decide) ws_ascii
  refine Calls.mono h ?_
  rintro e w' ⟨rfl, hb⟩
  refine ⟨?_, hb⟩
  have e1 : Lib.trimLeftS (ByteArray.mk l.toArray).data.toList (ByteArray.mk #[32, 9, 10, 13]).data.toList = skipJ l := trim_ws l
  rw [e1]
theorem sub_drop (s : Txt) (p : Nat) : sub s p s.length = s.drop p := by unfold sub; rw [List.take_length]
def wsAt (s : Txt) (p : Nat) : Nat := s.length - (skipJ (s.drop p)).length
theorem ws_at {s : Txt} {p : Nat} (hp : p ≤ s.length) : s.drop (wsAt s p) = skipJ (s.drop p) ∧ p ≤ wsAt s p ∧ wsAt s p ≤ s.length := by
  have h := skip_suf (s.drop p)
  have hl := List.IsSuffix.length_le h
  rw [List.length_drop] at hl
  have h2 : skipJ (s.drop p) <:+ s := List.IsSuffix.trans h (List.drop_suffix p s)
  refine ⟨(List.suffix_iff_eq_drop.1 h2).symm, by unfold wsAt; omega, by unfold wsAt; omega⟩
set_option maxRecDepth 100000 in
theorem blanks_any (b : Nat) (s : Txt) (p : Nat) (w : World) (h : RdB w b s p) (hp : p ≤ s.length) (hl : s.length ≤ 1000000000) :
    Calls Tryz.prog 44 #[.pointer (some ⟨b, 0, none⟩)] w fun e w' => e = .returned (.tuple #[]) ∧ RdB w' b s (wsAt s p) ∧ GX [b] w w' := by
  have c0 : ∀ mm : QW w, mm.val.cell? ⟨b, 0, none⟩ = some (.string ⟨s.toArray⟩) := fun mm => mm.cell h.c0
  have c1 : ∀ mm : QW w, mm.val.cell? ⟨b, 1, none⟩ = some (.int .i64 (p : Int)) := fun mm => mm.cell h.c1
  have H := Lib.hid h
  have hs := sub_drop s p
  have hk := skip_len (s.drop p)
  rw [List.length_drop] at hk
  have HA := Lib.hid (ws_at hp)
  have HTr := Lib.hid (fun W => trimws_any (s.drop p) W)
  obtain ⟨K, hK⟩ : ∃ K, skipJ (s.drop p) = K := ⟨_, rfl⟩
  have HW : Hid (wsAt s p = s.length - K.length) := Lib.hid (by unfold wsAt; rw [hK])
  rw [hK] at hk HTr
  obtain ⟨D, hD⟩ : ∃ D, s.drop p = D := ⟨_, rfl⟩
  have hDl : D.length = s.length - p := by rw [← hD, List.length_drop]
  rw [hD] at hs HTr
  have HDl := Lib.hid hDl
  have hd2 : D.length ≤ 1000000000 := by omega
  have hkd : K.length ≤ D.length := by omega
  clear h hK hD hDl
  go_enter Tryz.func44, Tryz.ntmps44
  go_upto_region 0 with (fail)
  refine wp_region_q (by kernel_rfl) (by kernel_rfl) ?_
  (repeat (go_big_quiet_step (fail)))
  refine wpQuiet_nil ?_
  rintro w1 ⟨m1, hm1⟩
  have hq1 : Q w w1 := by rw [hm1]; exact m1.le
  clear m1 hm1 c0 c1
  have c1 : ∀ mm : QW w1, mm.val.cell? ⟨b, 1, none⟩ = some (.int .i64 (p : Int)) := fun mm => mm.cell (H.out.q hq1).c1
  have HQ1 := Lib.hid hq1
  clear hq1
  go_upto_region 1 with (fail)
  refine wp_region_q_tail 11 (by kernel_rfl) (by kernel_rfl) ?_
  simp only [List.take_succ_cons, List.take_zero, List.drop_succ_cons, List.drop_zero, Act.put]
  (repeat (go_big_quiet_step ((go_at_call 58; exact calls_q (HTr.out _)))))
  refine wpQuiet_nil ?_
  rintro w2 ⟨m2, hm2⟩
  have hq2 : Q w w2 := HQ1.out.trans (by rw [hm2]; exact m2.le)
  clear m2 hm2 c1
  have c1 := (H.out.q hq2).c1
  have f1 := (H.out.q hq2).f 1
  have e1 : (p : Int) + ((D.length : Int) - (K.length : Int)) = ((wsAt s p : Nat) : Int) := by rw [HW.out]; have := HDl.out; omega
  have HR : Hid (RdB (w2.setCell ⟨b, 1, none⟩ (.int .i64 ((p : Int) + ((D.length : Int) - (K.length : Int))))) b s (wsAt s p)) := Lib.hid (by rw [e1]; exact (H.out.q hq2).set _)
  have HG : Hid (GX [b] w (w2.setCell ⟨b, 1, none⟩ (.int .i64 ((p : Int) + ((D.length : Int) - (K.length : Int)))))) := Lib.hid ((GX.q hq2).set (by simp) _ _)
  clear hq2 e1
  go_wp2_with fail
  go_end0
  exact ⟨rfl, HR.out, HG.out⟩
end Go.Proofs.YtlhhiiemojhjdaaGreatDoor
set_option linter.unusedVariables false
set_option linter.unusedSimpArgs false
namespace Go.Proofs.YtlhhiiemojhjdaaGreatDoor
open Go Go.RowKit
theorem ten_iff (v : UInt8) : tenJ v = true ↔ (48 ≤ v.toNat ∧ v.toNat ≤ 57) := by unfold tenJ; simp
theorem GX.reader {b : Nat} {w w' : World} (h : GX [b] w w') {w'' : World} (hq : Q w' w'') : GX [b] w w'' := h.trans (GX.q hq)
def tenAt (s : Txt) (p : Nat) : Txt := (s.drop p).dropWhile tenJ
theorem ten_step {s : Txt} {p : Nat} (h : tenJ (hdB (s.drop p)) = true) : p < s.length ∧ tenAt s (p + 1) = tenAt s p := by
  have hp : p < s.length := by
    rcases Nat.lt_or_ge p s.length with h1 | h1
    · exact h1
    · rw [hd_drop_end h1] at h; exact absurd h (by decide)
  refine ⟨hp, ?_⟩
  unfold tenAt
  rw [drop_at hp] at h ⊢
  have h : tenJ (gB s p) = true := h
  rw [List.dropWhile_cons_of_pos h]
theorem ten_stop {s : Txt} {p : Nat} (h : tenJ (hdB (s.drop p)) = false) : tenAt s p = s.drop p := drop_ten h
set_option maxRecDepth 100000 in
theorem digits_any (b : Nat) (s : Txt) (p : Nat) (w : World) (h : RdB w b s p) (hp : p ≤ s.length) (hl : s.length ≤ 1000000000) :
    Calls Tryz.prog 77 #[.pointer (some ⟨b, 0, none⟩)] w (UnitP b s (digR (s.drop p)) w) := by
  have H := Lib.hid h
  have HPk := Lib.hid (fun q W (h : RdB W b s q) (hq : q ≤ s.length) => peek_any b s q W h hq (by omega))
  obtain ⟨v, hv⟩ : ∃ v, hdB (s.drop p) = v := ⟨_, rfl⟩
  have HV := Lib.hid hv
  have hvl : (v.toNat : Int) < 256 := by have := v.toNat_lt; omega
  have HP0 := Lib.hid (HPk.out p w h hp)
  rw [hv] at HP0
  clear h hv
  by_cases ht : tenJ v = true
  · have ht2 := (ten_iff v).1 ht
    have g1 : decide ((v.toNat : Int) < 48) = false := by simp; omega
    have g2 : decide ((57 : Int) < (v.toNat : Int)) = false := by simp; omega
    have HR : Hid (digR (s.drop p) = .ok () (tenAt s p)) := Lib.hid (by unfold digR tenAt; rw [HV.out, if_pos ht])
    clear ht ht2
    go_enter Tryz.func77, Tryz.ntmps77
    go_wp2_with fail
    refine HP0.out.mono ?_
    rintro e w1 ⟨rfl, hq1⟩
    have HQ1 := Lib.hid hq1
    have HP1 := Lib.hid (HPk.out p w1 (H.out.q hq1) hp)
    rw [HV.out] at HP1
    clear hq1
    go_wp2_with fail
    refine HP1.out.mono ?_
    rintro e w2 ⟨rfl, hq2⟩
    have HQ2 := Lib.hid (HQ1.out.trans hq2)
    clear hq2 g1 g2
    go_wp2_with fail
    go_loopg [3] (s.length + 1) (fun gk s3 wx => ∃ (q : Nat) (u : UInt8), s.length - q < gk ∧ q ≤ s.length ∧ s3 = .int .u8 (u.toNat : Int) ∧ Hid (hdB (s.drop q) = u ∧ tenAt s q = tenAt s p ∧ RdB wx b s q ∧ GX [b] w wx))
    case atStart => exact ⟨p, v, by omega, hp, rfl, Lib.hid ⟨HV.out, rfl, H.out.q HQ2.out, GX.q HQ2.out⟩⟩
    case round =>
      obtain ⟨q, u, hg, hql, rfl, HI⟩ := hrel
      rename World => wa
      obtain ⟨g', rfl⟩ : ∃ g', gk = g' + 1 := ⟨gk - 1, by omega⟩
      have hul : (u.toNat : Int) < 256 := by have := u.toNat_lt; omega
      by_cases hu : tenJ u = true
      · have hu2 := (ten_iff u).1 hu
        have st := ten_step (s := s) (p := q) (by rw [HI.out.1]; exact hu)
        have g1 : decide ((48 : Int) ≤ (u.toNat : Int)) = true := by simp; omega
        have g2 : decide ((u.toNat : Int) ≤ 57) = true := by simp; omega
        have c1 := HI.out.2.2.1.c1
        have f1 := HI.out.2.2.1.f 1
        have HR2 : Hid (RdB (wa.setCell ⟨b, 1, none⟩ (.int .i64 ((q : Int) + 1))) b s (q + 1)) := Lib.hid (by have := HI.out.2.2.1.set (q + 1); simpa using this)
        have HG2 : Hid (GX [b] w (wa.setCell ⟨b, 1, none⟩ (.int .i64 ((q : Int) + 1)))) := Lib.hid (HI.out.2.2.2.set (by simp) _ _)
        obtain ⟨hq1, hq2⟩ := st
        have HT := Lib.hid (hq2.trans HI.out.2.1)
        obtain ⟨u2, hu2e⟩ : ∃ u2, hdB (s.drop (q + 1)) = u2 := ⟨_, rfl⟩
        have HU2 := Lib.hid hu2e
        clear hu hu2 hq2 hu2e
        go_wp2_with fail
        refine (HPk.out (q + 1) _ HR2.out (by omega)).mono ?_
        rw [HU2.out]
        rintro e wb ⟨rfl, hqb⟩
        have HN : Hid (hdB (s.drop (q + 1)) = u2 ∧ tenAt s (q + 1) = tenAt s p ∧ RdB wb b s (q + 1) ∧ GX [b] w wb) := Lib.hid ⟨HU2.out, HT.out, HR2.out.q hqb, HG2.out.reader hqb⟩
        clear hqb c1 f1
        go_wp2_with fail
        go_roundg g'
        case measure => omega
        case rel => exact ⟨q + 1, u2, by omega, by omega, rfl, HN⟩
      · have hu2 : ¬ (48 ≤ u.toNat ∧ u.toNat ≤ 57) := fun h => hu ((ten_iff u).2 h)
        have HE : Hid (tenAt s p = s.drop q) := Lib.hid (by rw [← HI.out.2.1]; exact ten_stop (by rw [HI.out.1]; simpa using hu))
        by_cases h48 : 48 ≤ u.toNat
        · have g1 : decide ((48 : Int) ≤ (u.toNat : Int)) = true := by simp; omega
          have g2 : decide ((u.toNat : Int) ≤ 57) = false := by simp; omega
          clear hu hu2 h48
          go_wp2_with fail
          go_end0
          rw [HR.out, HE.out]
          exact ⟨rfl, ⟨q, hql, rfl, HI.out.2.2.1⟩, HI.out.2.2.2⟩
        · have g1 : decide ((48 : Int) ≤ (u.toNat : Int)) = false := by simp; omega
          clear hu hu2 h48
          go_wp2_with fail
          go_end0
          rw [HR.out, HE.out]
          exact ⟨rfl, ⟨q, hql, rfl, HI.out.2.2.1⟩, HI.out.2.2.2⟩
  · have ht2 : ¬ (48 ≤ v.toNat ∧ v.toNat ≤ 57) := fun h => ht ((ten_iff v).2 h)
    have HN : Hid (∀ (w1 w2 : World) bf, Q w w1 → FaultJ w2 bf 54 (p : Int) → Q w1 w2 → UnitP b s (digR (s.drop p)) w (.panicked [{ v := .iface 32 (.pointer (some ⟨bf, 0, none⟩)), recovered := false }]) w2) := Lib.hid (fun w1 w2 bf h1 hf h2 => by
      have e : digR (s.drop p) = .bad 54 (s.drop p).length := by unfold digR; rw [HV.out, if_neg ht]
      rw [e]
      refine ⟨⟨bf, rfl, ?_⟩, GX.q (h1.trans h2)⟩
      rw [List.length_drop, show s.length - (s.length - p) = p by omega]; exact hf)
    by_cases h48 : v.toNat < 48
    · have g1 : decide ((v.toNat : Int) < 48) = true := by simp; omega
      clear ht ht2 h48
      go_enter Tryz.func77, Tryz.ntmps77
      go_wp2_with fail
      refine HP0.out.mono ?_
      rintro e w1 ⟨rfl, hq1⟩
      have HQ1 := Lib.hid hq1
      have c1 := (H.out.q hq1).c1
      clear hq1
      go_wp2_with fail
      refine (fail_any 54 _ _).mono ?_
      rintro e w2 ⟨⟨bf, rfl, hf⟩, hq2⟩
      have HF := Lib.hid hf
      have HQ2 := Lib.hid hq2
      clear hf hq2
      go_wp2_with fail
      exact ⟨rfl, HN.out _ _ _ HQ1.out HF.out HQ2.out⟩
    · have g1 : decide ((v.toNat : Int) < 48) = false := by simp; omega
      have g2 : decide ((57 : Int) < (v.toNat : Int)) = true := by simp; omega
      clear ht ht2 h48
      go_enter Tryz.func77, Tryz.ntmps77
      go_wp2_with fail
      refine HP0.out.mono ?_
      rintro e w1 ⟨rfl, hq1⟩
      have HQ1 := Lib.hid hq1
      have c1 := (H.out.q hq1).c1
      clear hq1
      go_wp2_with fail
      refine (fail_any 54 _ _).mono ?_
      rintro e w2 ⟨⟨bf, rfl, hf⟩, hq2⟩
      have HF := Lib.hid hf
      have HQ2 := Lib.hid hq2
      clear hf hq2
      go_wp2_with fail
      exact ⟨rfl, HN.out _ _ _ HQ1.out HF.out HQ2.out⟩
end Go.Proofs.YtlhhiiemojhjdaaGreatDoor
set_option linter.unusedVariables false
set_option linter.unusedSimpArgs false
namespace Go.Proofs.YtlhhiiemojhjdaaGreatDoor
open Go Go.RowKit
def StJ (b : Nat) (s : Txt) (p : Nat) (w W : World) (l : Txt) : Prop := ∃ q, p ≤ q ∧ q ≤ s.length ∧ s.drop q = l ∧ RdB W b s q ∧ GX [b] w W
theorem StJ.q {b : Nat} {s : Txt} {p : Nat} {w W W' : World} {l : Txt} (h : StJ b s p w W l) (hq : Q W W') : StJ b s p w W' l := by
  obtain ⟨q, h1, h2, h3, h4, h5⟩ := h
  exact ⟨q, h1, h2, h3, h4.q hq, h5.reader hq⟩
def NumP (b : Nat) (s : Txt) (p : Nat) (a : PR Unit) (w : World) (e : Ending) (w' : World) : Prop :=
  match a with
  | .ok _ r => (∃ q, p ≤ q ∧ q ≤ s.length ∧ s.drop q = r ∧ RdB w' b s q ∧ e = .returned (.string ⟨(sub s p q).toArray⟩)) ∧ GX [b] w w'
  | .bad c n => Gave b s c n w e w'
theorem eq_byte {v c : UInt8} (h : v = c) : (((v.toNat : Int)) == ((c.toNat : Int))) = true := by rw [h]; simp
theorem ne_byte {v c : UInt8} (h : v ≠ c) : (((v.toNat : Int)) == ((c.toNat : Int))) = false := by
  simp only [beq_eq_false_iff_ne, ne_eq]; intro e; exact h (UInt8.toNat_inj.1 (by omega))
theorem drop_tail {s : Txt} {p : Nat} (h : p < s.length) : (s.drop p).tail = s.drop (p + 1) := by rw [drop_at h]; rfl
theorem lt_of_hd {s : Txt} {p : Nat} (h : hdB (s.drop p) ≠ 0) : p < s.length := by
  rcases Nat.lt_or_ge p s.length with h1 | h1
  · exact h1
  · exact absurd (hd_drop_end h1) h
set_option maxRecDepth 100000 in
theorem number_any (b : Nat) (s : Txt) (p : Nat) (w : World) (h : RdB w b s p) (hp : p ≤ s.length) (hl : s.length ≤ 1000000000) :
    Calls Tryz.prog 66 #[.pointer (some ⟨b, 0, none⟩)] w (NumP b s p (numR (s.drop p)) w) := by
  have H := Lib.hid h
  have HPk := Lib.hid (fun q W (h : RdB W b s q) (hq : q ≤ s.length) => peek_any b s q W h hq (by omega))
  have HDg := Lib.hid (fun q W (h : RdB W b s q) (hq : q ≤ s.length) => digits_any b s q W h hq hl)
  obtain ⟨N, hN⟩ : ∃ N, numR (s.drop p) = N := ⟨_, rfl⟩
  have HN := Lib.hid hN
  rw [hN]
  obtain ⟨v, hv⟩ : ∃ v, hdB (s.drop p) = v := ⟨_, rfl⟩
  have HV := Lib.hid hv
  have hvl : (v.toNat : Int) < 256 := by have := v.toNat_lt; omega
  have HP0 := Lib.hid (HPk.out p w h hp)
  rw [hv] at HP0
  have c1 := h.c1
  clear h hv hN
  go_enter Tryz.func66, Tryz.ntmps66
  go_wp2_with fail
  refine HP0.out.mono ?_
  rintro e w1 ⟨rfl, hq1⟩
  have HR1 := Lib.hid (H.out.q hq1)
  have HQ1 := Lib.hid hq1
  clear hq1 c1 HP0
  have c1 := HR1.out.c1
  have f1 := HR1.out.f 1
  go_upto_if 12 with (fail)
  go_cut [3] (fun s3 wx => s3 = .int .i64 (p : Int) ∧ Hid (StJ b s p w wx (minusR (s.drop p))))
  case first =>
    by_cases hm : v = 45
    · have g1 : (((v.toNat : Int)) == 45) = true := eq_byte hm
      have hlt := lt_of_hd (s := s) (p := p) (by rw [HV.out, hm]; decide)
      have HS : Hid (StJ b s p w (w1.setCell ⟨b, 1, none⟩ (.int .i64 ((p : Int) + 1))) (minusR (s.drop p))) := Lib.hid ⟨p + 1, by omega, hlt, by unfold minusR; rw [HV.out, if_pos hm, drop_tail hlt], by have := HR1.out.set (p + 1); simpa using this, (GX.q HQ1.out).set (by simp) _ _⟩
      clear hm
      go_wp2_with fail
      go_meet
      exact ⟨rfl, HS.out⟩
    · have g1 : (((v.toNat : Int)) == 45) = false := ne_byte hm
      have HS : Hid (StJ b s p w w1 (minusR (s.drop p))) := Lib.hid ⟨p, by omega, hp, by unfold minusR; rw [HV.out, if_neg hm], HR1.out, GX.q HQ1.out⟩
      clear hm
      go_wp2_with fail
      go_meet
      exact ⟨rfl, HS.out⟩
  case rest =>
    obtain ⟨rfl, HS⟩ := hcut
    clear HR1 HQ1 c1 f1 HV hvl
    obtain ⟨l1, hl1⟩ : ∃ l, minusR (s.drop p) = l := ⟨_, rfl⟩
    rw [hl1] at HS
    have HL1 := Lib.hid hl1
    clear hl1
    obtain ⟨q, hpq, hqs, hd, hR, hG⟩ := HS.out
    have HPq := Lib.hid (HPk.out q wc hR hqs)
    rw [hd] at HPq
    obtain ⟨u, hu⟩ : ∃ u, hdB l1 = u := ⟨_, rfl⟩
    rw [hu] at HPq
    have HU := Lib.hid hu
    have HD := Lib.hid hd
    have HR2 := Lib.hid hR
    have HG2 := Lib.hid hG
    clear hd hR hG hu HS
    have hul : (u.toNat : Int) < 256 := by have := u.toNat_lt; omega
    go_wp2_with fail
    refine HPq.out.mono ?_
    rintro e w2 ⟨rfl, hq2⟩
    have HR3 := Lib.hid (HR2.out.q hq2)
    have HG3 := Lib.hid (HG2.out.reader hq2)
    clear hq2 HPq HR2 HG2
    have c1 := HR3.out.c1
    have f1 := HR3.out.f 1
    go_upto_if 22 with (fail)
    go_cut [3] (fun s3 wx => s3 = .int .i64 (p : Int) ∧ ∃ l2, Hid (intR l1 = .ok () l2) ∧ Hid (StJ b s p w wx l2))
    case first =>
      by_cases hm : u = 48
      · have g1 : (((u.toNat : Int)) == 48) = true := eq_byte hm
        have hlt := lt_of_hd (s := s) (p := q) (by rw [HD.out, HU.out, hm]; decide)
        have HI : Hid (intR l1 = .ok () l1.tail) := Lib.hid (by unfold intR; rw [HU.out, if_pos hm])
        have HS : Hid (StJ b s p w (w2.setCell ⟨b, 1, none⟩ (.int .i64 ((q : Int) + 1))) l1.tail) := Lib.hid ⟨q + 1, by omega, hlt, by rw [← HD.out, drop_tail hlt], by have := HR3.out.set (q + 1); simpa using this, HG3.out.set (by simp) _ _⟩
        clear hm
        go_wp2_with fail
        go_meet
        exact ⟨rfl, _, HI, HS⟩
      · have g1 : (((u.toNat : Int)) == 48) = false := ne_byte hm
        have HI : Hid (intR l1 = digR l1) := Lib.hid (by unfold intR; rw [HU.out, if_neg hm])
        have HDq := Lib.hid (HDg.out q w2 HR3.out hqs)
        rw [HD.out] at HDq
        clear hm
        go_wp2_with fail
        refine HDq.out.mono ?_
        intro e w3 hU
        have HW := Lib.hid hU
        clear hU
        obtain ⟨DR, hDR⟩ : ∃ x, digR l1 = x := ⟨_, rfl⟩
        rw [hDR] at HW HI
        have hgd := digR_good l1
        rw [hDR] at hgd
        have HGD := Lib.hid hgd
        clear hgd hDR HDq
        rcases DR with ⟨x, l2⟩ | ⟨c, n⟩
        · obtain ⟨rfl, ⟨q2, k1, k2, k3⟩, k4⟩ := HW.out
          have HS : Hid (StJ b s p w w3 l2) := Lib.hid ⟨q2, by have h1 := List.IsSuffix.length_le HGD.out; rw [← k2, ← HD.out, List.length_drop, List.length_drop] at h1; omega, k1, k2, k3, HG3.out.trans k4⟩
          clear k1 k2 k3 k4
          go_wp2_with fail
          go_meet
          exact ⟨rfl, _, HI, HS⟩
        · obtain ⟨⟨bf, rfl, hf⟩, hg⟩ := HW.out
          have HX : Hid (NumP b s p N w (.panicked [{ v := .iface 32 (.pointer (some ⟨bf, 0, none⟩)), recovered := false }]) w3) := Lib.hid (by
            rw [← HN.out]
            have e : numR (s.drop p) = .bad c n := by unfold numR; rw [HL1.out, HI.out]; rfl
            rw [e]
            exact ⟨⟨bf, rfl, hf⟩, HG3.out.trans hg⟩)
          clear hf hg
          go_wp2_with fail
          exact ⟨rfl, HX.out⟩
    case rest =>
      obtain ⟨rfl, l2, HI, HS⟩ := hcut
      rename World => wf
      have HE2 : Hid (N = (fracR l2).bind fun _ l3 => expR l3) := Lib.hid (by rw [← HN.out]; unfold numR; rw [HL1.out, HI.out]; rfl)
      clear HR3 HG3 c1 f1 HD HU hul HI HL1
      obtain ⟨q2, hpq2, hqs2, hd, hR, hG⟩ := HS.out
      have HPq := Lib.hid (HPk.out q2 wf hR hqs2)
      rw [hd] at HPq
      obtain ⟨u2, hu⟩ : ∃ u, hdB l2 = u := ⟨_, rfl⟩
      rw [hu] at HPq
      have HU := Lib.hid hu
      have HD := Lib.hid hd
      have HR2 := Lib.hid hR
      have HG2 := Lib.hid hG
      clear hd hR hG hu HS
      have hul : (u2.toNat : Int) < 256 := by have := u2.toNat_lt; omega
      go_wp2_with fail
      refine HPq.out.mono ?_
      rintro e w4 ⟨rfl, hq2⟩
      have HR3 := Lib.hid (HR2.out.q hq2)
      have HG3 := Lib.hid (HG2.out.reader hq2)
      clear hq2 HPq HR2 HG2
      have c1 := HR3.out.c1
      have f1 := HR3.out.f 1
      go_upto_if 34 with (fail)
      go_cut [3] (fun s3 wx => s3 = .int .i64 (p : Int) ∧ ∃ l3, Hid (fracR l2 = .ok () l3) ∧ Hid (StJ b s p w wx l3))
      case first =>
        by_cases hm : u2 = 46
        · have g1 : (((u2.toNat : Int)) == 46) = true := eq_byte hm
          have hlt := lt_of_hd (s := s) (p := q2) (by rw [HD.out, HU.out, hm]; decide)
          have HF : Hid (fracR l2 = digR l2.tail) := Lib.hid (by unfold fracR; rw [HU.out, if_pos hm])
          have HT : Hid (s.drop (q2 + 1) = l2.tail) := Lib.hid (by rw [← HD.out, drop_tail hlt])
          have HR4 : Hid (RdB (w4.setCell ⟨b, 1, none⟩ (.int .i64 ((q2 : Int) + 1))) b s (q2 + 1)) := Lib.hid (by have := HR3.out.set (q2 + 1); simpa using this)
          have HG4 : Hid (GX [b] w (w4.setCell ⟨b, 1, none⟩ (.int .i64 ((q2 : Int) + 1)))) := Lib.hid (HG3.out.set (by simp) _ _)
          have HDq := Lib.hid (HDg.out (q2 + 1) _ HR4.out hlt)
          rw [HT.out] at HDq
          clear hm
          go_wp2_with fail
          refine HDq.out.mono ?_
          intro e w5 hU
          have HW := Lib.hid hU
          clear hU c1 f1
          obtain ⟨DR, hDR⟩ : ∃ x, digR l2.tail = x := ⟨_, rfl⟩
          rw [hDR] at HW HF
          have hgd := digR_good l2.tail
          rw [hDR] at hgd
          have HGD := Lib.hid hgd
          clear hgd hDR HDq
          rcases DR with ⟨x, l3⟩ | ⟨c, n⟩
          · obtain ⟨rfl, ⟨q3, k1, k2, k3⟩, k4⟩ := HW.out
            have HS : Hid (StJ b s p w w5 l3) := Lib.hid ⟨q3, by have h1 := List.IsSuffix.length_le HGD.out; rw [← k2, ← HT.out, List.length_drop, List.length_drop] at h1; omega, k1, k2, k3, HG4.out.trans k4⟩
            clear k1 k2 k3 k4
            go_wp2_with fail
            go_meet
            exact ⟨rfl, _, HF, HS⟩
          · obtain ⟨⟨bf, rfl, hf⟩, hg⟩ := HW.out
            have HX : Hid (NumP b s p N w (.panicked [{ v := .iface 32 (.pointer (some ⟨bf, 0, none⟩)), recovered := false }]) w5) := Lib.hid (by
              rw [HE2.out, HF.out]
              exact ⟨⟨bf, rfl, hf⟩, HG4.out.trans hg⟩)
            clear hf hg
            go_wp2_with fail
            exact ⟨rfl, HX.out⟩
        · have g1 : (((u2.toNat : Int)) == 46) = false := ne_byte hm
          have HF : Hid (fracR l2 = .ok () l2) := Lib.hid (by unfold fracR; rw [HU.out, if_neg hm])
          have HS : Hid (StJ b s p w w4 l2) := Lib.hid ⟨q2, hpq2, hqs2, HD.out, HR3.out, HG3.out⟩
          clear hm
          go_wp2_with fail
          go_meet
          exact ⟨rfl, _, HF, HS⟩
      case rest =>
        obtain ⟨rfl, l3, HF, HS⟩ := hcut
        have HE3 : Hid (N = expR l3) := Lib.hid (by rw [HE2.out, HF.out]; rfl)
        rename World => wg
        clear HR3 HG3 c1 f1 HD HU hul HF HE2
        obtain ⟨q3, hpq3, hqs3, hd, hR, hG⟩ := HS.out
        have HPq := Lib.hid (HPk.out q3 wg hR hqs3)
        rw [hd] at HPq
        obtain ⟨u3, hu⟩ : ∃ u, hdB l3 = u := ⟨_, rfl⟩
        rw [hu] at HPq
        have HU := Lib.hid hu
        have HD := Lib.hid hd
        have HR2 := Lib.hid hR
        have HG2 := Lib.hid hG
        clear hd hR hG hu HS
        have hul : (u3.toNat : Int) < 256 := by have := u3.toNat_lt; omega
        go_wp2_with fail
        refine HPq.out.mono ?_
        rintro e w6 ⟨rfl, hq2⟩
        have HR3 := Lib.hid (HR2.out.q hq2)
        have HG3 := Lib.hid (HG2.out.reader hq2)
        clear hq2 HPq HR2 HG2
        have c1 := HR3.out.c1
        have f1 := HR3.out.f 1
        by_cases hm : u3 = 101 ∨ u3 = 69
        rotate_left
        · have g1 : (((u3.toNat : Int)) == 101) = false := ne_byte (fun h => hm (.inl h))
          have g2 : (((u3.toNat : Int)) == 69) = false := ne_byte (fun h => hm (.inr h))
          have HF : Hid (expR l3 = .ok () l3) := Lib.hid (by unfold expR; rw [HU.out, if_neg hm])
          have HS : Hid (StJ b s p w w6 l3) := Lib.hid ⟨q3, hpq3, hqs3, HD.out, HR3.out, HG3.out⟩
          clear hm c1 f1
          obtain ⟨q4, k0, k1, k2, k3, k4⟩ := HS.out
          have HK := Lib.hid (And.intro k2 (And.intro k3 k4))
          have c0 : ∀ mm : QW w6, mm.val.cell? ⟨b, 0, none⟩ = some (.string ⟨s.toArray⟩) := fun mm => mm.cell HK.out.2.1.c0
          have c1 : ∀ mm : QW w6, mm.val.cell? ⟨b, 1, none⟩ = some (.int .i64 (q4 : Int)) := fun mm => mm.cell HK.out.2.1.c1
          clear k2 k3 k4
          go_upto_region 17 with (fail)
          refine wp_region_q (by kernel_rfl) (by kernel_rfl) ?_
          (repeat (go_big_quiet_step (fail)))
          refine wpQuiet_nil ?_
          rintro wz ⟨mz, hmz⟩
          have hqz : Q w6 wz := by rw [hmz]; exact mz.le
          have HZ : Hid (NumP b s p N w (.returned (.string ⟨(sub s p q4).toArray⟩)) wz) := Lib.hid (by
            rw [HE3.out, HF.out]
            exact ⟨⟨q4, k0, k1, HK.out.1, HK.out.2.1.q hqz, rfl⟩, HK.out.2.2.reader hqz⟩)
          clear mz hmz hqz c0 c1
          go_wp2_with fail
          go_ret
          exact HZ.out
        have hlt := lt_of_hd (s := s) (p := q3) (by rw [HD.out, HU.out]; rcases hm with h | h <;> (rw [h]; decide))
        have HF0 : Hid (expR l3 = digR (signR l3.tail)) := Lib.hid (by unfold expR; rw [HU.out, if_pos hm])
        have HT : Hid (s.drop (q3 + 1) = l3.tail) := Lib.hid (by rw [← HD.out, drop_tail hlt])
        have HR4 : Hid (RdB (w6.setCell ⟨b, 1, none⟩ (.int .i64 ((q3 : Int) + 1))) b s (q3 + 1)) := Lib.hid (by have := HR3.out.set (q3 + 1); simpa using this)
        have HG4 : Hid (GX [b] w (w6.setCell ⟨b, 1, none⟩ (.int .i64 ((q3 : Int) + 1)))) := Lib.hid (HG3.out.set (by simp) _ _)
        have HPs := Lib.hid (HPk.out (q3 + 1) _ HR4.out hlt)
        rw [HT.out] at HPs
        obtain ⟨u5, hu5⟩ : ∃ u, hdB l3.tail = u := ⟨_, rfl⟩
        rw [hu5] at HPs
        have HU5 := Lib.hid hu5
        clear hu5
        have hul5 : (u5.toNat : Int) < 256 := by have := u5.toNat_lt; omega
        have hg : (((u3.toNat : Int)) == 101) = true ∨ ((((u3.toNat : Int)) == 101) = false ∧ (((u3.toNat : Int)) == 69) = true) := by
          by_cases h1 : u3 = 101
          · exact .inl (eq_byte h1)
          · exact .inr ⟨ne_byte h1, eq_byte (hm.resolve_left h1)⟩
        clear hm
        rcases hg with g1 | ⟨g1, g2⟩
        all_goals
          go_wp2_with fail
          refine HPs.out.mono ?_
          rintro e w7 ⟨rfl, hq7⟩
          have HR7 := Lib.hid (HR4.out.q hq7)
          have HG7 := Lib.hid (HG4.out.reader hq7)
          clear hq7 HPs c1 f1
          have c1 := HR7.out.c1
          have f1 := HR7.out.f 1
          by_cases hs : u5 = 43 ∨ u5 = 45
          · have hlt2 := lt_of_hd (s := s) (p := q3 + 1) (by rw [HT.out, HU5.out]; rcases hs with h | h <;> (rw [h]; decide))
            have HF : Hid (expR l3 = digR l3.tail.tail) := Lib.hid (by rw [HF0.out]; unfold signR; rw [HU5.out, if_pos hs])
            have HTT : Hid (s.drop (q3 + 1 + 1) = l3.tail.tail) := Lib.hid (by rw [← HT.out, drop_tail hlt2])
            have HR8 : Hid (RdB (w7.setCell ⟨b, 1, none⟩ (.int .i64 ((q3 : Int) + 1 + 1))) b s (q3 + 1 + 1)) := Lib.hid (by have := HR7.out.set (q3 + 1 + 1); simpa using this)
            have HG8 : Hid (GX [b] w (w7.setCell ⟨b, 1, none⟩ (.int .i64 ((q3 : Int) + 1 + 1)))) := Lib.hid (HG7.out.set (by simp) _ _)
            have HDq := Lib.hid (HDg.out (q3 + 1 + 1) _ HR8.out hlt2)
            rw [HTT.out] at HDq
            have hg2 : (((u5.toNat : Int)) == 43) = true ∨ ((((u5.toNat : Int)) == 43) = false ∧ (((u5.toNat : Int)) == 45) = true) := by
              by_cases h1 : u5 = 43
              · exact .inl (eq_byte h1)
              · exact .inr ⟨ne_byte h1, eq_byte (hs.resolve_left h1)⟩
            clear hs
            rcases hg2 with g3 | ⟨g3, g4⟩
            all_goals
              go_wp2_with fail
              refine HDq.out.mono ?_
              intro e w8 hU
              have HW := Lib.hid hU
              clear hU
              obtain ⟨DR, hDR⟩ : ∃ x, digR l3.tail.tail = x := ⟨_, rfl⟩
              rw [hDR] at HW HF
              have hgd := digR_good l3.tail.tail
              rw [hDR] at hgd
              have HGD := Lib.hid hgd
              clear hgd hDR HDq
              rcases DR with ⟨x, l4⟩ | ⟨c, n⟩
              rotate_left
              · obtain ⟨⟨bf, rfl, hf⟩, hg⟩ := HW.out
                have HX : Hid (NumP b s p N w (.panicked [{ v := .iface 32 (.pointer (some ⟨bf, 0, none⟩)), recovered := false }]) w8) := Lib.hid (by
                  rw [HE3.out, HF.out]
                  exact ⟨⟨bf, rfl, hf⟩, HG8.out.trans hg⟩)
                clear hf hg
                go_wp2_with fail
                exact ⟨rfl, HX.out⟩
              obtain ⟨rfl, ⟨q9, k1, k2, k3⟩, k4⟩ := HW.out
              have HS : Hid (StJ b s p w w8 l4) := Lib.hid ⟨q9, by have h1 := List.IsSuffix.length_le HGD.out; rw [← k2, ← HTT.out, List.length_drop, List.length_drop] at h1; omega, k1, k2, k3, HG8.out.trans k4⟩
              clear k1 k2 k3 k4
              obtain ⟨q4, k0, k1, k2, k3, k4⟩ := HS.out
              have HK := Lib.hid (And.intro k2 (And.intro k3 k4))
              have c0 : ∀ mm : QW w8, mm.val.cell? ⟨b, 0, none⟩ = some (.string ⟨s.toArray⟩) := fun mm => mm.cell HK.out.2.1.c0
              have c1 : ∀ mm : QW w8, mm.val.cell? ⟨b, 1, none⟩ = some (.int .i64 (q4 : Int)) := fun mm => mm.cell HK.out.2.1.c1
              clear k2 k3 k4
              go_upto_region 17 with (fail)
              refine wp_region_q (by kernel_rfl) (by kernel_rfl) ?_
              (repeat (go_big_quiet_step (fail)))
              refine wpQuiet_nil ?_
              rintro wz ⟨mz, hmz⟩
              have hqz : Q w8 wz := by rw [hmz]; exact mz.le
              have HZ : Hid (NumP b s p N w (.returned (.string ⟨(sub s p q4).toArray⟩)) wz) := Lib.hid (by
                rw [HE3.out, HF.out]
                exact ⟨⟨q4, k0, k1, HK.out.1, HK.out.2.1.q hqz, rfl⟩, HK.out.2.2.reader hqz⟩)
              clear mz hmz hqz c0 c1
              go_wp2_with fail
              go_ret
              exact HZ.out
          · have g3 : (((u5.toNat : Int)) == 43) = false := ne_byte (fun h => hs (.inl h))
            have g4 : (((u5.toNat : Int)) == 45) = false := ne_byte (fun h => hs (.inr h))
            have HF : Hid (expR l3 = digR l3.tail) := Lib.hid (by rw [HF0.out]; unfold signR; rw [HU5.out, if_neg hs])
            have HTT : Hid (s.drop (q3 + 1) = l3.tail) := Lib.hid HT.out
            have HDq := Lib.hid (HDg.out (q3 + 1) _ HR7.out hlt)
            rw [HTT.out] at HDq
            clear hs
            go_wp2_with fail
            refine HDq.out.mono ?_
            intro e w8 hU
            have HW := Lib.hid hU
            clear hU
            obtain ⟨DR, hDR⟩ : ∃ x, digR l3.tail = x := ⟨_, rfl⟩
            rw [hDR] at HW HF
            have hgd := digR_good l3.tail
            rw [hDR] at hgd
            have HGD := Lib.hid hgd
            clear hgd hDR HDq
            rcases DR with ⟨x, l4⟩ | ⟨c, n⟩
            rotate_left
            · obtain ⟨⟨bf, rfl, hf⟩, hg⟩ := HW.out
              have HX : Hid (NumP b s p N w (.panicked [{ v := .iface 32 (.pointer (some ⟨bf, 0, none⟩)), recovered := false }]) w8) := Lib.hid (by
                rw [HE3.out, HF.out]
                exact ⟨⟨bf, rfl, hf⟩, HG7.out.trans hg⟩)
              clear hf hg
              go_wp2_with fail
              exact ⟨rfl, HX.out⟩
            obtain ⟨rfl, ⟨q9, k1, k2, k3⟩, k4⟩ := HW.out
            have HS : Hid (StJ b s p w w8 l4) := Lib.hid ⟨q9, by have h1 := List.IsSuffix.length_le HGD.out; rw [← k2, ← HTT.out, List.length_drop, List.length_drop] at h1; omega, k1, k2, k3, HG7.out.trans k4⟩
            clear k1 k2 k3 k4
            obtain ⟨q4, k0, k1, k2, k3, k4⟩ := HS.out
            have HK := Lib.hid (And.intro k2 (And.intro k3 k4))
            have c0 : ∀ mm : QW w8, mm.val.cell? ⟨b, 0, none⟩ = some (.string ⟨s.toArray⟩) := fun mm => mm.cell HK.out.2.1.c0
            have c1 : ∀ mm : QW w8, mm.val.cell? ⟨b, 1, none⟩ = some (.int .i64 (q4 : Int)) := fun mm => mm.cell HK.out.2.1.c1
            clear k2 k3 k4
            go_upto_region 17 with (fail)
            refine wp_region_q (by kernel_rfl) (by kernel_rfl) ?_
            (repeat (go_big_quiet_step (fail)))
            refine wpQuiet_nil ?_
            rintro wz ⟨mz, hmz⟩
            have hqz : Q w8 wz := by rw [hmz]; exact mz.le
            have HZ : Hid (NumP b s p N w (.returned (.string ⟨(sub s p q4).toArray⟩)) wz) := Lib.hid (by
              rw [HE3.out, HF.out]
              exact ⟨⟨q4, k0, k1, HK.out.1, HK.out.2.1.q hqz, rfl⟩, HK.out.2.2.reader hqz⟩)
            clear mz hmz hqz c0 c1
            go_wp2_with fail
            go_ret
            exact HZ.out
end Go.Proofs.YtlhhiiemojhjdaaGreatDoor
set_option linter.unusedVariables false
namespace Go.Proofs.YtlhhiiemojhjdaaGreatDoor
open Go Go.RowKit
def u8V (x : UInt8) : Value := .int .u8 (x.toNat : Int)
theorem Q.gb {w w' : World} (h : Q w w') (row : Option Nat) : w.grownBy w' row := ⟨h.os, h.tape, h.output, h.size, fun k hk _ => Below.block h k hk⟩
theorem gb_trans {a b c : World} {row : Option Nat} (h : a.grownBy b row) (k : b.grownBy c row) : a.grownBy c row :=
  ⟨k.os.trans h.os, k.tape.trans h.tape, k.output.trans h.output, Nat.le_trans h.size k.size, fun i hi hr => (k.block i (Nat.lt_of_lt_of_le hi h.size) hr).trans (h.block i hi hr)⟩
theorem gb_set {a b : World} {g : Nat} (h : a.grownBy b (some g)) (i : Nat) (v : Value) : a.grownBy (b.setCell ⟨g, i, none⟩ v) (some g) :=
  ⟨h.os, h.tape, h.output, by simpa using h.size, fun k hk hr => by
    rw [heap_setCell_other b ⟨g, i, none⟩ k v (by intro e; exact hr (by rw [e]))]; exact h.block k hk hr⟩
end Go.Proofs.YtlhhiiemojhjdaaGreatDoor
set_option linter.unusedVariables false
namespace Go.Proofs.YtlhhiiemojhjdaaGreatDoor
open Go Go.RowKit
def OwnB (w0 w : World) (v : Value) (b : List UInt8) : Prop :=
  (v = .slice none 0 0 ∧ b = []) ∨
  ∃ g cap cur fz, v = .slice (some ⟨g, 0, none⟩) b.length cap ∧ w0.heap.size ≤ g ∧ w.heap[g]? = some (.cells cur 5 fz) ∧ (fz.2 = 0 ∨ cur.size ≤ fz.1) ∧ b.length ≤ cap ∧ cap ≤ maxLen ∧ cur.size = cap ∧ cur.toList.take b.length = b.map u8V
theorem OwnB.nil (w0 w : World) : OwnB w0 w (.slice none 0 0) [] := .inl ⟨rfl, rfl⟩
theorem OwnB.g {w0 w w' : World} {v : Value} {b : List UInt8} {row : Option Nat} (h : OwnB w0 w v b) (hg : w.grownBy w' row) (hr : ∀ k, v.ownBlock = some k → row ≠ some k) : OwnB w0 w' v b := by
  rcases h with h | ⟨g, cap, cur, fz, hv, h1, h2, h3⟩
  · exact .inl h
  · refine .inr ⟨g, cap, cur, fz, hv, h1, ?_, h3⟩
    rw [hg.block g (lt_of_heap h2) (by intro e; exact hr g (by rw [hv]; rfl) e.symm)]
    exact h2
theorem OwnB.q {w0 w w' : World} {v : Value} {b : List UInt8} (h : OwnB w0 w v b) (hq : Q w w') : OwnB w0 w' v b := h.g (hq.gb none) (by simp)
theorem OwnB.base {w0 w1 w : World} {v : Value} {b : List UInt8} (h : OwnB w1 w v b) (hq : w0.heap.size ≤ w1.heap.size) : OwnB w0 w v b := by
  rcases h with h | ⟨g, cap, cur, fz, hv, h1, h2⟩
  · exact .inl h
  · exact .inr ⟨g, cap, cur, fz, hv, by omega, h2⟩
theorem OwnB.block {w0 w : World} {v : Value} {b : List UInt8} (h : OwnB w0 w v b) {k : Nat} (hk : v.ownBlock = some k) : w0.heap.size ≤ k := by
  rcases h with ⟨rfl, _⟩ | ⟨g, cap, cur, fz, rfl, h1, _⟩
  · cases hk
  · simp [Value.ownBlock] at hk; omega
theorem OwnB.of_row {w0 w : World} {v : Value} {b : List UInt8} (h : w.ownsRow w0.heap.size 5 1 v b.length (b.map u8V)) : OwnB w0 w v b := by
  rcases h.2 with ⟨rfl, h0⟩ | ⟨g, cap, cur, rfl, hb, hh, hn, hm, hcs, ht⟩
  · exact .inl ⟨rfl, List.eq_nil_of_length_eq_zero h0⟩
  · exact .inr ⟨g, cap, cur, (0, 0), rfl, hb, hh, .inl rfl, hn, hm, by omega, by rw [Nat.mul_one] at ht; exact ht⟩
theorem info_u8 : (Tryz.prog.info? 5).map (fun i => (i.zero, i.size, i.bytes)) = some (some (.int .u8 0), 1, 1) := by kernel_rfl
theorem heap_setCell_any (w : World) (g i : Nat) (cs : Array Value) (t : TypeId) (fz : Nat × Nat) (v : Value) (hg : w.heap[g]? = some (.cells cs t fz)) :
    (w.setCell ⟨g, i, none⟩ v).heap[g]? = some (.cells (cs.setIfInBounds i v) t fz) := by
  simp [World.setCell, Array.getElem?_modify, hg]
theorem heap_setCells (g : Nat) (t : TypeId) (fz : Nat × Nat) (vs : List Value) : ∀ (o : Nat) (w : World) (cur : Array Value), w.heap[g]? = some (.cells cur t fz) → o + vs.length ≤ cur.size →
    (w.setCells g o vs).heap[g]? = some (.cells (cur.toList.take o ++ vs ++ cur.toList.drop (o + vs.length)).toArray t fz) := by
  induction vs with
  | nil => intro o w cur h _; simpa [World.setCells] using h
  | cons v r ih =>
    intro o w cur h ho
    simp only [List.length_cons] at ho
    rw [World.setCells, ih (o + 1) _ _ (heap_setCell_any w g o cur t fz v h) (by simp; omega)]
    congr 2
    rw [← Array.toList_inj]
    simp only [Array.toList_setIfInBounds]
    have ho' : o < cur.toList.length := by simp; omega
    rw [List.set_eq_take_append_cons_drop, if_pos ho']
    rw [List.take_append, List.drop_append, List.length_take, Nat.min_eq_left (by omega)]
    simp only [show o + 1 - o = 1 from by omega, List.take_succ_cons, List.take_zero, show o + 1 + r.length - o = r.length + 1 from by omega, List.drop_succ_cons, List.drop_drop, List.length_cons]
    rw [List.take_take, Nat.min_eq_right (by omega), List.drop_of_length_le (l := List.take o cur.toList) (by simp; omega)]
    simp [Nat.add_comm, Nat.add_left_comm]
theorem setCells_gb (g : Nat) (vs : List Value) : ∀ (o : Nat) (w : World), w.grownBy (w.setCells g o vs) (some g) := by
  induction vs with
  | nil => intro o w; exact ⟨rfl, rfl, rfl, Nat.le_refl _, fun _ _ _ => rfl⟩
  | cons v r ih => intro o w; exact gb_trans (gb_set ⟨rfl, rfl, rfl, Nat.le_refl _, fun _ _ _ => rfl⟩ o v) (ih (o + 1) _)
theorem frozen_any {w : World} {g i : Nat} {cur : Array Value} {t : TypeId} {fz : Nat × Nat} (h : w.heap[g]? = some (.cells cur t fz)) (hf : fz.2 = 0 ∨ cur.size ≤ fz.1) (hi : i < cur.size) : w.frozen? ⟨g, i, none⟩ = false := by
  unfold World.frozen?
  rw [h]
  simp only [Bool.and_eq_false_iff, decide_eq_false_iff_not]
  omega
theorem conv_b {w0 w : World} {v : Value} {b : List UInt8} (h : OwnB w0 w v b) : (convert 104 9 v).run Tryz.prog w = .ok (.string ⟨b.toArray⟩) w := by
  rcases h with ⟨rfl, rfl⟩ | ⟨g, cap, cur, fz, rfl, hbg, hg, hfz, hnc, hcm, hcs, htake⟩
  · have := Lib.run_convert_nil_bytes (P := Tryz.prog) w 104 9 5 0 Tryz.underlying104 Tryz.underlying5 Tryz.underlying9
    rw [this]
  · refine run_convert_bytes_back (P := Tryz.prog) w 104 9 5 ⟨g, 0, none⟩ cap b Tryz.underlying104 Tryz.underlying5 Tryz.underlying9 ?_
    intro i hi
    rw [add_off, Nat.zero_add, cell_of_row w g i cur _ fz hg]
    have e : cur[i]? = (b.map u8V)[i]? := by rw [← htake, List.getElem?_take, if_pos hi, Array.getElem?_toList]
    rw [e]
    simp [u8V, hi]
theorem bytes_of (l : List UInt8) (w : World) (hl : l.length ≤ 9223372036854775807) : ∃ v w', (convert 9 104 (.string ⟨l.toArray⟩)).run Tryz.prog w = .ok v w' ∧ OwnB w w' v l ∧ Q w w' ∧ ∃ cap, v = .slice (some ⟨w.heap.size, 0, none⟩) l.length cap := by
  have hr := run_bytes_of_string (P := Tryz.prog) w 9 104 5 ⟨l.toArray⟩ Tryz.underlying9 Tryz.underlying104 Tryz.underlying5
  have hsz : (ByteArray.mk l.toArray).size = l.length := rfl
  have hge := grownCap_ge w l.length 0 5
  have hcm2 := grownCap_le_maxLen w l.length 0 5 (by unfold maxLen; omega)
  rw [hsz] at hr
  refine ⟨_, _, hr, .inr ⟨w.heap.size, _, _, _, rfl, Nat.le_refl _, heap_alloc_new w.drew _, .inr (Nat.le_refl _), hge, hcm2, ?_, ?_⟩, (Q.refl w).drew.alloc _, _, rfl⟩
  · simp [bytesRow, hsz]; omega
  · simp [bytesRow, u8V]
theorem OwnB.form {w0 w : World} {v : Value} {b : List UInt8} (h : OwnB w0 w v b) : ∃ A cap, v = .slice A b.length cap ∧ b.length ≤ cap ∧ cap ≤ maxLen ∧ (A = none → b = []) ∧ ∀ ad, A = some ad → w0.heap.size ≤ ad.block ∧ ad = ⟨ad.block, 0, none⟩ ∧
    (∀ i, i < b.length → w.cell? ⟨ad.block, i, none⟩ = some (.int .u8 ((gB b i).toNat : Int)) ∧ w.frozen? ⟨ad.block, i, none⟩ = false) := by
  rcases h with ⟨rfl, rfl⟩ | ⟨g, cap, cur, fz, rfl, hbg, hg, hfz, hnc, hcm, hcs, htake⟩
  · exact ⟨none, 0, rfl, Nat.le_refl _, by unfold maxLen; omega, fun _ => rfl, fun ad h => by cases h⟩
  · refine ⟨_, cap, rfl, hnc, hcm, fun h => (by cases h), fun ad h => ?_⟩
    cases h
    refine ⟨hbg, rfl, fun i hi => ⟨?_, frozen_any hg hfz (by omega)⟩⟩
    show w.cell? ⟨g, i, none⟩ = _
    rw [cell_of_row w g i cur _ fz hg]
    have e : cur[i]? = (b.map u8V)[i]? := by rw [← htake, List.getElem?_take, if_pos hi, Array.getElem?_toList]
    rw [e]
    simp [u8V, gB, List.getD, hi]
theorem OwnB.pos {w0 w : World} {v : Value} {b : List UInt8} (h : OwnB w0 w v b) (hb : 0 < b.length) : ∃ g cap, v = .slice (some ⟨g, 0, none⟩) b.length cap ∧ w0.heap.size ≤ g ∧ b.length ≤ cap ∧ cap ≤ maxLen ∧
    ∀ i, i < b.length → w.cell? ⟨g, i, none⟩ = some (.int .u8 ((gB b i).toNat : Int)) ∧ w.frozen? ⟨g, i, none⟩ = false := by
  obtain ⟨A, cap, hv, h1, h2, h3, h4⟩ := h.form
  cases A with
  | none => rw [h3 rfl] at hb; cases hb
  | some ad =>
    obtain ⟨h5, h6, h7⟩ := h4 ad rfl
    exact ⟨ad.block, cap, by rw [hv, ← h6], h5, h1, h2, h7⟩
theorem OwnB.set {w0 w : World} {g n cap : Nat} {b : List UInt8} (h : OwnB w0 w (.slice (some ⟨g, 0, none⟩) n cap) b) (i : Nat) (x : UInt8) : OwnB w0 (w.setCell ⟨g, i, none⟩ (.int .u8 (x.toNat : Int))) (.slice (some ⟨g, 0, none⟩) n cap) (b.set i x) := by
  rcases h with ⟨h, _⟩ | ⟨g', cap', cur, fz, hv, hbg, hg, hfz, hnc, hcm, hcs, htake⟩
  · cases h
  · cases hv
    refine .inr ⟨g, cap, _, fz, by simp, hbg, heap_setCell_any w g i cur _ fz _ hg, ?_, by simpa using hnc, hcm, by simpa using hcs, ?_⟩
    · rcases hfz with h | h
      · exact .inl h
      · right; simpa using h
    · simp only [Array.toList_setIfInBounds, List.length_set]
      rw [List.take_set, htake, List.map_set]
      rfl
end Go.Proofs.YtlhhiiemojhjdaaGreatDoor
