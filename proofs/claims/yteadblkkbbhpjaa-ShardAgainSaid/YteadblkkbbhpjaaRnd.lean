/- A drawn region within a round of a range over a function: a plain law on it serves there too. -/
import Derived.RangeFuncCalls
import Derived.OrdersIn
import Derived.OrdersHeld
import Derived.TacticsIn
import Derived.Test.YteadblkkbbhpjaaMix
set_option linter.unusedVariables false
namespace Go.Proofs.Yteadblkkbbhpjaa
open Go Go.RowKit
section
variable {P : Program} {ops : Array Oper} {Q : Exit → Act → World → Prop} {l n : Nat}
theorem upon_in {o : Oper} {a : Act} {next : Act → World → Prop} (r : Result Next) (h : o.upon P a next Q r) : o.uponIn (Fence.wide.inRound l) n P a next Q r := by
  cases r with
  | ok x w' =>
    cases x with
    | value v => exact h
    | skip => exact h
    | defer d => exact h
    | enter f args => exact ⟨fun h => by simp [Fence.wide, Fence.inRound] at h, CallsIn.inRound l (callsIn_wide.2 h)⟩
    | row r args => exact ⟨fun h => by simp [Fence.wide, Fence.inRound] at h, fun c cs _ => let ⟨v, w', r, s⟩ := h c cs; ⟨v, w', r, stepsIn_wide.2 s⟩⟩
    | _ => first | exact h.elim | exact h
  | halt x w' =>
    cases x <;> exact h
theorem wpOp_in {i : Nat} {K : Act → World → Prop} {a : Act} {w : World} (hQ : ¬ LetsOut Q) (hnd : ∀ (i : Nat) (o : Oper) (c : Call), ops[i]? = some o → o.op ≠ .defer c) (h : wpOp P ops Q i K a w) : wpOpIn (Fence.wide.inRound l) n P ops Q i K a w := by
  unfold wpOp at h
  unfold wpOpIn
  cases ho : ops[i]? with
  | none => rw [ho] at h; exact h
  | some o =>
    rw [ho] at h
    simp only at h ⊢
    by_cases hw : Region.wanted o (yielded ops a.tmps) = true
    · rw [if_pos hw] at h ⊢
      rcases h with h | ⟨_, h⟩
      · refine ⟨fun _ _ => trivial, ?_⟩
        rw [Oper.semAt_eq _ _ _ (fun c => hnd i o c ho)]
        exact upon_in _ h
      · exact absurd h hQ
    · rw [if_neg hw] at h ⊢
      exact ⟨fun _ _ => trivial, h⟩
theorem wpOpIn_K {i : Nat} {K K' : Act → World → Prop} {a : Act} {w : World} (hk : ∀ a w, K a w → K' a w) (h : wpOpIn (Fence.wide.inRound l) n P ops Q i K a w) : wpOpIn (Fence.wide.inRound l) n P ops Q i K' a w := wpOpIn_mono hk h
theorem wpAny_in {md : Region.Mode} (hQ : ¬ LetsOut Q) (hnd : ∀ (i : Nat) (o : Oper) (c : Call), ops[i]? = some o → o.op ≠ .defer c) (f : Nat) : ∀ (ls : Array Bool) (a : Act) (w : World), wpAny P md ops Q f ls a w → wpAnyIn (Fence.wide.inRound l) n P md ops Q f ls a w := by
  induction f with
  | zero => intro ls a w h; exact h
  | succ f ih => intro ls a w h; exact ⟨h.1, fun i hi => wpOpIn_mono (fun a w => ih _ a w) (wpOp_in hQ hnd (h.2 i hi))⟩
def noDefer (ops : Array Oper) : Bool := ops.all fun o => match o.op with | .defer _ => false | _ => true
theorem noDefer_spec (h : noDefer ops = true) : ∀ (i : Nat) (o : Oper) (c : Call), ops[i]? = some o → o.op ≠ .defer c := by
  intro i o c ho e
  have h1 := Array.all_eq_true.1 h
  obtain ⟨hi, ho'⟩ := Array.getElem?_eq_some_iff.1 ho
  have h2 := h1 i hi
  rw [ho'] at h2
  simp only [e, Bool.false_eq_true] at h2
/-- A region law's own end, taken within a round. -/
theorem wpIn_region_round {id : Nat} {a : Act} {w : World} (hm : P.follows .mixedOrders = true) (hQ : ¬ LetsOut Q) (hnd : noDefer ops = true)
    (h : wpAny P .any ops Q ops.size (Array.replicate ops.size false) a { w with drawn := w.drawn + 1 }) : (Code.region id ops true).wpIn (Fence.wide.inRound l) n P Q a w :=
  wpIn_region_any hm (wpAny_in hQ (noDefer_spec hnd) _ _ _ _ h)
end
theorem wpIn_quiet_tail {C : World → Prop} {P : Program} {id : Nat} {R : Exit → Act → World → Prop} {a : Act} {w : World} {l : List Oper} (n : Nat) (hm : P.follows .mixedOrders = true) (hLO : ¬ LetsOut R) (hND : noDefer l.toArray = true) {r n0 : Nat} (hB : Region.lexTailB .any l.toArray n = true)
    (hC : C { w with drawn := w.drawn + 1 }) (h : wpQuiet P l.toArray C (fun a' => ∀ w', C w' → wpList P l.toArray R (l.drop n) a' w') (l.take n) a) : (Code.region id l.toArray true).wpIn (Fence.wide.inRound r) n0 P R a w := by
  simp only [Region.lexTailB, Bool.and_eq_true, decide_eq_true_eq] at hB
  have hn : n < l.length := by simpa using hB.1.1.1.2
  have htl : (l.take n).length = n := by simp; omega
  have hdl : (l.drop n).length = l.toArray.size - n := by simp
  have inv0 : HeadInv .any l.toArray n (Array.replicate l.toArray.size false) :=
    ⟨by simp, fun j oj _ hl => (by rw [getD_replicate_false] at hl; cases hl), fun t _ ht => getD_in (by simpa using ht) (getD_replicate_false _ _)⟩
  have H := headQ_lex (md := .any) (C := C) (g := l.toArray.size - n) hB.1.1.1.1 hB.1.1.2 hB.1.2 hB.1.1.1.2 (l.take n) 0 _ a (fun j hj => by rw [htl] at hj; simp [hj]) (by simpa using htl) inv0 (by rw [htl]; exact hB.2) h
  refine wpIn_region_round hm hLO hND ?_
  have := any_of_headQ (C := C) (R := R) (g := l.toArray.size - n) (fun ls a' w' hw' hL => by
    have h1 := wpAny_of_seq (md := .any) (Q' := R) (l.drop n) n ls a' w' (fun j => by simp [List.getElem?_drop]) (by rw [hdl]; exact hL.1) (hL.2 w' hw')
    rwa [hdl] at h1) _ _ _ _ hC H
  have hsz : n + (l.toArray.size - n) = l.toArray.size := by
    have : l.toArray.size = l.length := by simp
    omega
  rwa [htl, hsz] at this
theorem wpIn_pure {P : Program} {id : Nat} {R : Exit → Act → World → Prop} {a : Act} {w : World} {l : List Oper} (hd tl : List Nat) (hm : P.follows .mixedOrders = true) (hLO : ¬ LetsOut R) (hND : noDefer l.toArray = true) {r n0 : Nat}
    (hB : (Region.noSelect l.toArray && pureB .any l.toArray hd (Array.replicate l.length false) && tailB .any l.toArray tl (markB hd (Array.replicate l.length false)) && decide (hd.length + tl.length = l.length)) = true)
    (hQ : ∀ c a d v w, R (.panic c) (Act.put a d v) w → R (.panic c) a w)
    (h : wpQuiet P l.toArray (fun _ => True) (fun a' => wpList P l.toArray R (tl.map (l.toArray.getD · default)) a' w.drew) (hd.map (l.toArray.getD · default)) a) : (Code.region id l.toArray true).wpIn (Fence.wide.inRound r) n0 P R a w := by
  simp only [Bool.and_eq_true, decide_eq_true_eq] at hB
  obtain ⟨⟨⟨h1, h2⟩, h3⟩, h4⟩ := hB
  refine wpIn_region_round hm hLO hND (wpAny_of_held (S := fun _ => True) _ _ _ _ ?_)
  have e : l.toArray.size = hd.length + tl.length := by simp [h4]
  rw [e]
  have e2 : Array.replicate (hd.length + tl.length) false = Array.replicate l.length false := by rw [h4]
  rw [e2]
  refine any_head h1 hQ tl.length _ hd _ a h2 ?_
  exact wpQuiet_mono (fun a' h' => any_tail tl _ a' _ h3 h') _ _ h
theorem wpIn_mix {P : Program} {id : Nat} {R : Exit → Act → World → Prop} {a : Act} {w : World} {l : List Oper} (hd qs : List Nat) (t0 : Nat) (tr : List Nat) (hm : P.follows .mixedOrders = true) (hLO : ¬ LetsOut R) (hND : noDefer l.toArray = true) {r n0 : Nat}
    (hB : mixB l.toArray hd qs t0 tr = true) (hQ : ∀ c a d v w, R (.panic c) (Act.put a d v) w → R (.panic c) a w)
    (h : wpQuiet P l.toArray (fun _ => True) (fun a' => wpQuiet P l.toArray (fun w' => ∃ m : QW w, w' = m.val) (fun a'' => ∀ w', (∃ m : QW w, w' = m.val) → wpList P l.toArray R ((t0 :: tr).map (l.toArray.getD · default)) a'' w') (qs.map (l.toArray.getD · default)) a') (hd.map (l.toArray.getD · default)) a) :
    (Code.region id l.toArray true).wpIn (Fence.wide.inRound r) n0 P R a w := by
  simp only [mixB, Bool.and_eq_true, decide_eq_true_eq] at hB
  obtain ⟨⟨⟨⟨⟨⟨⟨⟨⟨⟨h1, h2⟩, h3⟩, h4⟩, h5⟩, h6⟩, h7⟩, h8⟩, h9⟩, h10⟩, h11⟩ := hB
  refine wpIn_region_round hm hLO hND (wpAny_of_held (S := fun _ => True) _ _ _ _ ?_)
  rw [← h8]
  have e2 : Array.replicate (hd.length + (qs.length + (t0 :: tr).length)) false = Array.replicate l.toArray.size false := by rw [h8]
  rw [e2]
  generalize hls : markB hd (Array.replicate l.toArray.size false) = ls1 at *
  refine any_head h1 hQ _ _ hd _ a h2 (wpQuiet_mono (fun a' h' => ?_) _ _ h)
  rw [hls]
  refine held_of_any _ _ _ _ ?_
  have hT : ∀ t ∈ t0 :: tr, t ∉ qs ∧ ls1.getD t true = false := by
    intro t ht
    have := List.all_eq_true.1 h6 t ht
    simpa using this
  have hsz : ∀ i ∈ t0 :: qs, i < l.toArray.size := fun i hi => by have := List.all_eq_true.1 h7 i hi; simpa using this
  have hwait : ∀ ls, MixInv l.toArray ls1 (· ∈ qs) ls → ∀ i, i ∈ qs → ls.getD i true = false → ∀ t, t ∈ Region.ready .any l.toArray ls → t ∈ qs := by
    intro ls inv i hi hun t ht
    obtain ⟨htun, ot, hot, _⟩ := mem_ready.1 ht
    have htl : t < l.toArray.size := (Array.getElem?_eq_some_iff.1 hot).1
    have := List.all_eq_true.1 h9 t (List.mem_range.2 htl)
    simp only [Bool.or_eq_true, List.contains_iff_mem] at this
    rcases this with (g | g) | g
    · rw [inv.more t g] at htun; cases htun
    · exact g
    · exact absurd ht (mix_waits hsz h4 h5 hT hsz inv _ i rfl hi hun t g)
  have inv0 : MixInv l.toArray ls1 (· ∈ qs) ls1 := ⟨h10, fun j oj hj hl e he hb => by
    have hjl : j < l.toArray.size := (Array.getElem?_eq_some_iff.1 hj).1
    have := List.all_eq_true.1 h11 j (List.mem_range.2 hjl)
    rw [hj] at this
    simp only [hl, Bool.not_true, Bool.false_or] at this
    have := Array.all_eq_true'.1 this e he
    simpa [hb] using this, fun t _ h => h, fun t h => h⟩
  have H := mixQ_lex (C := fun w' => ∃ m : QW w, w' = m.val) h1 hwait (fun t ht => (hT t ht).1) qs ls1 a' (fun k hk => hk) inv0 h3 h'
  exact any_of_mixQ (fun ls a w hw hL => wpAny_of_held _ _ _ _ (any_tail _ _ _ _ hL.1 (hL.2 w hw))) _ _ _ _ ⟨⟨w.drew, (Q.refl w).drew⟩, rfl⟩ H
theorem wpIn_quiet {P : Program} {ops : Array Oper} {C : World → Prop} {id : Nat} {Q : Exit → Act → World → Prop} {a : Act} {w : World} {r n0 : Nat} (hm : P.follows .mixedOrders = true) (hLO : ¬ LetsOut Q) (hND : noDefer ops = true) (hB : Region.lexB .any ops = true) (hC : C { w with drawn := w.drawn + 1 })
    (h : wpQuiet P ops C (fun a' => ∀ w', C w' → Q .normal a' w') ops.toList a) : (Code.region id ops true).wpIn (Fence.wide.inRound r) n0 P Q a w := by
  simp only [Region.lexB, Bool.and_eq_true] at hB
  refine wpIn_region_round hm hLO hND (wpAny_of_quiet (Q := fun a' => ∀ w', C w' → Q .normal a' w') (fun _ w' hw' h => h w' hw') _ _ _ _ hC ?_)
  have := wpAnyQ_lex (C := C) (md := .any) hB.1 ops.toList 0 (Array.replicate ops.size false) a (by simp) (by simpa using hB.2) h
  simpa using this
theorem wpOps_in {P : Program} {ops : Array Oper} {Q : Exit → Act → World → Prop} {r n0 : Nat} (hQ : ¬ LetsOut Q) (hnd : ∀ (i : Nat) (o : Oper) (c : Call), ops[i]? = some o → o.op ≠ .defer c) (l : List Nat) : ∀ (a : Act) (w : World), wpOps P ops Q l a w → wpOpsIn (Fence.wide.inRound r) n0 P ops Q l a w := by
  induction l with
  | nil => intro a w h; exact h
  | cons i l ih =>
    intro a w h
    rw [wpOps_cons] at h
    rw [wpOpsIn_cons]
    exact wpOpIn_mono (fun a w => ih a w) (wpOp_in hQ hnd h)
/-- A region that does not draw. -/
theorem wpIn_list {P : Program} {id : Nat} {l : List Oper} {Q : Exit → Act → World → Prop} {a : Act} {w : World} {r n0 : Nat} (hLO : ¬ LetsOut Q) (hND : noDefer l.toArray = true) (h : wpList P l.toArray Q l a w) : (Code.region id l.toArray false).wpIn (Fence.wide.inRound r) n0 P Q a w :=
  wpIn_region (wpOps_in hLO (noDefer_spec hND) _ _ _ (by
    rw [List.range_eq_range', ← Array.length_toList, wpOps_eq_wpList l.toArray.toList 0 (by simp)]
    simpa using h))
end Go.Proofs.Yteadblkkbbhpjaa
