/- Texts of this proof, laid into one: Rnd, Hld, Frk, UrD, UrE, UrF, TiedU, UrS. -/
import Derived.Test.YtlalpnnnnmcejaaDoorMu02
import Derived.RangeFuncCalls
import Derived.OrdersIn
import Derived.OrdersHeld
import Derived.TacticsIn
import Derived.Deep.RegionHeld3
import Derived.Shelf.Vars
import Derived.Shelf.Strings.CaseAny
import Derived.Test.YtlalpnnnnmcejaaDoorRows
import Derived.ProofKit
import Derived.LaidMore
import Derived.LaidSub
import Derived.MakeChecks
import Derived.Lay
import GoSem.PinnedTables
import Derived.Lib.LaidU8
import Derived.Lib.LaidCase
import Derived.OpenShut
import Derived.Stop.Joined
import Derived.Shelf.SlSortCmp.WholeK
/- A drawn region within a round of a range over a function: a plain law on it serves there too. -/
set_option linter.unusedVariables false
namespace Go.Proofs.YtlalpnnnnmcejaaDoor
open Go Go.RowKit
section
variable {P : Program} {ops : Array Oper} {Q : Exit → Act → World → Prop} {l n : Nat}
theorem upon_in {o : Oper} {a : Act} {next : Act → World → Prop} (r : Result Next) (h : o.upon P a next Q r) : o.uponIn (Fence.wide.inRound l) n P a next Q r := by
  cases r with
  | ok x w' =>
    cases x with
    | value v => exact h
    | skip => exact h
    | defer d => exact h
    | enter f args => exact ⟨fun h => by simp [Fence.wide, Fence.inRound] at h, CallsIn.inRound l (callsIn_wide.2 h)⟩
    | row r args => exact ⟨fun h => by simp [Fence.wide, Fence.inRound] at h, fun c cs _ => let ⟨v, w', r, s⟩ := h c cs; ⟨v, w', r, stepsIn_wide.2 s⟩⟩
    | _ => first | exact h.elim | exact h
  | halt x w' =>
    cases x <;> exact h
theorem wpOp_in {i : Nat} {K : Act → World → Prop} {a : Act} {w : World} (hQ : ¬ LetsOut Q) (hnd : ∀ (i : Nat) (o : Oper) (c : Call), ops[i]? = some o → o.op ≠ .defer c) (h : wpOp P ops Q i K a w) : wpOpIn (Fence.wide.inRound l) n P ops Q i K a w := by
  unfold wpOp at h
  unfold wpOpIn
  cases ho : ops[i]? with
  | none => rw [ho] at h; exact h
  | some o =>
    rw [ho] at h
    simp only at h ⊢
    by_cases hw : Region.wanted o (yielded ops a.tmps) = true
    · rw [if_pos hw] at h ⊢
      rcases h with h | ⟨_, h⟩
      · refine ⟨fun _ _ => trivial, ?_⟩
        rw [Oper.semAt_eq _ _ _ (fun c => hnd i o c ho)]
        exact upon_in _ h
      · exact absurd h hQ
    · rw [if_neg hw] at h ⊢
      exact ⟨fun _ _ => trivial, h⟩
theorem wpOpIn_K {i : Nat} {K K' : Act → World → Prop} {a : Act} {w : World} (hk : ∀ a w, K a w → K' a w) (h : wpOpIn (Fence.wide.inRound l) n P ops Q i K a w) : wpOpIn (Fence.wide.inRound l) n P ops Q i K' a w := wpOpIn_mono hk h
theorem wpAny_in {md : Region.Mode} (hQ : ¬ LetsOut Q) (hnd : ∀ (i : Nat) (o : Oper) (c : Call), ops[i]? = some o → o.op ≠ .defer c) (f : Nat) : ∀ (ls : Array Bool) (a : Act) (w : World), wpAny P md ops Q f ls a w → wpAnyIn (Fence.wide.inRound l) n P md ops Q f ls a w := by
  induction f with
  | zero => intro ls a w h; exact h
  | succ f ih => intro ls a w h; exact ⟨h.1, fun i hi => wpOpIn_mono (fun a w => ih _ a w) (wpOp_in hQ hnd (h.2 i hi))⟩
def noDefer (ops : Array Oper) : Bool := ops.all fun o => match o.op with | .defer _ => false | _ => true
theorem noDefer_spec (h : noDefer ops = true) : ∀ (i : Nat) (o : Oper) (c : Call), ops[i]? = some o → o.op ≠ .defer c := by
  intro i o c ho e
  have h1 := Array.all_eq_true.1 h
  obtain ⟨hi, ho'⟩ := Array.getElem?_eq_some_iff.1 ho
  have h2 := h1 i hi
  rw [ho'] at h2
  simp only [e, Bool.false_eq_true] at h2
/-- A region law's own end, taken within a round. -/
theorem wpIn_region_round {id : Nat} {a : Act} {w : World} (hm : P.follows .mixedOrders = true) (hQ : ¬ LetsOut Q) (hnd : noDefer ops = true)
    (h : wpAny P .any ops Q ops.size (Array.replicate ops.size false) a { w with drawn := w.drawn + 1 }) : (Code.region id ops true).wpIn (Fence.wide.inRound l) n P Q a w :=
  wpIn_region_any hm (wpAny_in hQ (noDefer_spec hnd) _ _ _ _ h)
end
theorem wpIn_quiet_tail {C : World → Prop} {P : Program} {id : Nat} {R : Exit → Act → World → Prop} {a : Act} {w : World} {l : List Oper} (n : Nat) (hm : P.follows .mixedOrders = true) (hLO : ¬ LetsOut R) (hND : noDefer l.toArray = true) {r n0 : Nat} (hB : Region.lexTailB .any l.toArray n = true)
    (hC : C { w with drawn := w.drawn + 1 }) (h : wpQuiet P l.toArray C (fun a' => ∀ w', C w' → wpList P l.toArray R (l.drop n) a' w') (l.take n) a) : (Code.region id l.toArray true).wpIn (Fence.wide.inRound r) n0 P R a w := by
  simp only [Region.lexTailB, Bool.and_eq_true, decide_eq_true_eq] at hB
  have hn : n < l.length := by simpa using hB.1.1.1.2
  have htl : (l.take n).length = n := by simp; omega
  have hdl : (l.drop n).length = l.toArray.size - n := by simp
  have inv0 : HeadInv .any l.toArray n (Array.replicate l.toArray.size false) :=
    ⟨by simp, fun j oj _ hl => (by rw [getD_replicate_false] at hl; cases hl), fun t _ ht => getD_in (by simpa using ht) (getD_replicate_false _ _)⟩
  have H := headQ_lex (md := .any) (C := C) (g := l.toArray.size - n) hB.1.1.1.1 hB.1.1.2 hB.1.2 hB.1.1.1.2 (l.take n) 0 _ a (fun j hj => by rw [htl] at hj; simp [hj]) (by simpa using htl) inv0 (by rw [htl]; exact hB.2) h
  refine wpIn_region_round hm hLO hND ?_
  have := any_of_headQ (C := C) (R := R) (g := l.toArray.size - n) (fun ls a' w' hw' hL => by
    have h1 := wpAny_of_seq (md := .any) (Q' := R) (l.drop n) n ls a' w' (fun j => by simp [List.getElem?_drop]) (by rw [hdl]; exact hL.1) (hL.2 w' hw')
    rwa [hdl] at h1) _ _ _ _ hC H
  have hsz : n + (l.toArray.size - n) = l.toArray.size := by
    have : l.toArray.size = l.length := by simp
    omega
  rwa [htl, hsz] at this
theorem wpIn_pure {P : Program} {id : Nat} {R : Exit → Act → World → Prop} {a : Act} {w : World} {l : List Oper} (hd tl : List Nat) (hm : P.follows .mixedOrders = true) (hLO : ¬ LetsOut R) (hND : noDefer l.toArray = true) {r n0 : Nat}
    (hB : (Region.noSelect l.toArray && pureB .any l.toArray hd (Array.replicate l.length false) && tailB .any l.toArray tl (markB hd (Array.replicate l.length false)) && decide (hd.length + tl.length = l.length)) = true)
    (hQ : ∀ c a d v w, R (.panic c) (Act.put a d v) w → R (.panic c) a w)
    (h : wpQuiet P l.toArray (fun _ => True) (fun a' => wpList P l.toArray R (tl.map (l.toArray.getD · default)) a' w.drew) (hd.map (l.toArray.getD · default)) a) : (Code.region id l.toArray true).wpIn (Fence.wide.inRound r) n0 P R a w := by
  simp only [Bool.and_eq_true, decide_eq_true_eq] at hB
  obtain ⟨⟨⟨h1, h2⟩, h3⟩, h4⟩ := hB
  refine wpIn_region_round hm hLO hND (wpAny_of_held (S := fun _ => True) _ _ _ _ ?_)
  have e : l.toArray.size = hd.length + tl.length := by simp [h4]
  rw [e]
  have e2 : Array.replicate (hd.length + tl.length) false = Array.replicate l.length false := by rw [h4]
  rw [e2]
  refine any_head h1 hQ tl.length _ hd _ a h2 ?_
  exact wpQuiet_mono (fun a' h' => any_tail tl _ a' _ h3 h') _ _ h
theorem wpIn_mix {P : Program} {id : Nat} {R : Exit → Act → World → Prop} {a : Act} {w : World} {l : List Oper} (hd qs : List Nat) (t0 : Nat) (tr : List Nat) (hm : P.follows .mixedOrders = true) (hLO : ¬ LetsOut R) (hND : noDefer l.toArray = true) {r n0 : Nat}
    (hB : mixB l.toArray hd qs t0 tr = true) (hQ : ∀ c a d v w, R (.panic c) (Act.put a d v) w → R (.panic c) a w)
    (h : wpQuiet P l.toArray (fun _ => True) (fun a' => wpQuiet P l.toArray (fun w' => ∃ m : QW w, w' = m.val) (fun a'' => ∀ w', (∃ m : QW w, w' = m.val) → wpList P l.toArray R ((t0 :: tr).map (l.toArray.getD · default)) a'' w') (qs.map (l.toArray.getD · default)) a') (hd.map (l.toArray.getD · default)) a) :
    (Code.region id l.toArray true).wpIn (Fence.wide.inRound r) n0 P R a w := by
  simp only [mixB, Bool.and_eq_true, decide_eq_true_eq] at hB
  obtain ⟨⟨⟨⟨⟨⟨⟨⟨⟨⟨h1, h2⟩, h3⟩, h4⟩, h5⟩, h6⟩, h7⟩, h8⟩, h9⟩, h10⟩, h11⟩ := hB
  refine wpIn_region_round hm hLO hND (wpAny_of_held (S := fun _ => True) _ _ _ _ ?_)
  rw [← h8]
  have e2 : Array.replicate (hd.length + (qs.length + (t0 :: tr).length)) false = Array.replicate l.toArray.size false := by rw [h8]
  rw [e2]
  generalize hls : markB hd (Array.replicate l.toArray.size false) = ls1 at *
  refine any_head h1 hQ _ _ hd _ a h2 (wpQuiet_mono (fun a' h' => ?_) _ _ h)
  rw [hls]
  refine held_of_any _ _ _ _ ?_
  have hT : ∀ t ∈ t0 :: tr, t ∉ qs ∧ ls1.getD t true = false := by
    intro t ht
    have := List.all_eq_true.1 h6 t ht
    simpa using this
  have hsz : ∀ i ∈ t0 :: qs, i < l.toArray.size := fun i hi => by have := List.all_eq_true.1 h7 i hi; simpa using this
  have hwait : ∀ ls, MixInv l.toArray ls1 (· ∈ qs) ls → ∀ i, i ∈ qs → ls.getD i true = false → ∀ t, t ∈ Region.ready .any l.toArray ls → t ∈ qs := by
    intro ls inv i hi hun t ht
    obtain ⟨htun, ot, hot, _⟩ := mem_ready.1 ht
    have htl : t < l.toArray.size := (Array.getElem?_eq_some_iff.1 hot).1
    have := List.all_eq_true.1 h9 t (List.mem_range.2 htl)
    simp only [Bool.or_eq_true, List.contains_iff_mem] at this
    rcases this with (g | g) | g
    · rw [inv.more t g] at htun; cases htun
    · exact g
    · exact absurd ht (mix_waits hsz h4 h5 hT hsz inv _ i rfl hi hun t g)
  have inv0 : MixInv l.toArray ls1 (· ∈ qs) ls1 := ⟨h10, fun j oj hj hl e he hb => by
    have hjl : j < l.toArray.size := (Array.getElem?_eq_some_iff.1 hj).1
    have := List.all_eq_true.1 h11 j (List.mem_range.2 hjl)
    rw [hj] at this
    simp only [hl, Bool.not_true, Bool.false_or] at this
    have := Array.all_eq_true'.1 this e he
    simpa [hb] using this, fun t _ h => h, fun t h => h⟩
  have H := mixQ_lex (C := fun w' => ∃ m : QW w, w' = m.val) h1 hwait (fun t ht => (hT t ht).1) qs ls1 a' (fun k hk => hk) inv0 h3 h'
  exact any_of_mixQ (fun ls a w hw hL => wpAny_of_held _ _ _ _ (any_tail _ _ _ _ hL.1 (hL.2 w hw))) _ _ _ _ ⟨⟨w.drew, (Q.refl w).drew⟩, rfl⟩ H
theorem wpIn_quiet {P : Program} {ops : Array Oper} {C : World → Prop} {id : Nat} {Q : Exit → Act → World → Prop} {a : Act} {w : World} {r n0 : Nat} (hm : P.follows .mixedOrders = true) (hLO : ¬ LetsOut Q) (hND : noDefer ops = true) (hB : Region.lexB .any ops = true) (hC : C { w with drawn := w.drawn + 1 })
    (h : wpQuiet P ops C (fun a' => ∀ w', C w' → Q .normal a' w') ops.toList a) : (Code.region id ops true).wpIn (Fence.wide.inRound r) n0 P Q a w := by
  simp only [Region.lexB, Bool.and_eq_true] at hB
  refine wpIn_region_round hm hLO hND (wpAny_of_quiet (Q := fun a' => ∀ w', C w' → Q .normal a' w') (fun _ w' hw' h => h w' hw') _ _ _ _ hC ?_)
  have := wpAnyQ_lex (C := C) (md := .any) hB.1 ops.toList 0 (Array.replicate ops.size false) a (by simp) (by simpa using hB.2) h
  simpa using this
theorem wpOps_in {P : Program} {ops : Array Oper} {Q : Exit → Act → World → Prop} {r n0 : Nat} (hQ : ¬ LetsOut Q) (hnd : ∀ (i : Nat) (o : Oper) (c : Call), ops[i]? = some o → o.op ≠ .defer c) (l : List Nat) : ∀ (a : Act) (w : World), wpOps P ops Q l a w → wpOpsIn (Fence.wide.inRound r) n0 P ops Q l a w := by
  induction l with
  | nil => intro a w h; exact h
  | cons i l ih =>
    intro a w h
    rw [wpOps_cons] at h
    rw [wpOpsIn_cons]
    exact wpOpIn_mono (fun a w => ih a w) (wpOp_in hQ hnd h)
/-- A region that does not draw. -/
theorem wpIn_list {P : Program} {id : Nat} {l : List Oper} {Q : Exit → Act → World → Prop} {a : Act} {w : World} {r n0 : Nat} (hLO : ¬ LetsOut Q) (hND : noDefer l.toArray = true) (h : wpList P l.toArray Q l a w) : (Code.region id l.toArray false).wpIn (Fence.wide.inRound r) n0 P Q a w :=
  wpIn_region (wpOps_in hLO (noDefer_spec hND) _ _ _ (by
    rw [List.range_eq_range', ← Array.length_toList, wpOps_eq_wpList l.toArray.toList 0 (by simp)]
    simpa using h))
end Go.Proofs.YtlalpnnnnmcejaaDoor
/- A region that draws its order, in a plain walk or in a round: loads of cells that stay may be taken first, beside operations that lay memory. -/
set_option linter.unusedVariables false
namespace Go.Proofs.YtlalpnnnnmcejaaDoor
open Go Go.RowKit
section
variable {P : Program} {ops : Array Oper} {R : Exit → Act → World → Prop} {S : World → Prop}
/-- One behind the other; behind each S is shown anew. -/
def wpListS (P : Program) (ops : Array Oper) (R : Exit → Act → World → Prop) (S : World → Prop) : List Oper → Act → World → Prop
  | [], a, w => R .normal a w
  | o :: r, a, w => ∀ K : Act → World → Prop, (∀ a' w', S w' → wpListS P ops R S r a' w' → K a' w') → wpList P ops (Exit.then K R) [o] a w
theorem upon_then {o : Oper} {a : Act} {K : Act → World → Prop} (r : Result Next) (h : o.upon P a (wpList P ops (Exit.then K R) []) (Exit.then K R) r) : o.upon P a K R r := by
  cases r with
  | ok x w' =>
    cases x with
    | value v => exact h
    | skip => exact h
    | defer d => exact h
    | enter f args =>
      refine Calls.mono h fun e w'' he => ?_
      cases e with
      | returned u => exact he
      | panicked c => exact he
      | outgrown => exact he
    | row r args => exact Rows.mono h fun u w'' he => he
    | _ => first | exact h.elim | exact h
  | halt x w' =>
    cases x <;> exact h
theorem wpOp_of_one {i : Nat} {o : Oper} {a : Act} {w : World} {K : Act → World → Prop} (ho : ops[i]? = some o) (h : wpList P ops (Exit.then K R) [o] a w) : wpOp P ops R i K a w := by
  unfold wpOp
  simp only [ho]
  unfold wpList at h
  split at h
  · next hw =>
    rw [if_pos hw]
    rcases h with h | ⟨h1, h2⟩
    · exact .inl (upon_then _ h)
    · exact .inr ⟨h1, h2⟩
  · next hw =>
    rw [if_neg hw]
    exact h
theorem any_tailS (tl : List Nat) : ∀ (ls : Array Bool) (a : Act) (w : World), tailB .any ops tl ls = true → wpListS P ops R S (tl.map (ops.getD · default)) a w → wpAnyH P .any ops R S tl.length ls a w := by
  induction tl with
  | nil => intro ls a w hB h; exact ⟨by simpa [tailB] using hB, h⟩
  | cons k r ih =>
    intro ls a w hB h
    simp only [tailB, Bool.and_eq_true, decide_eq_true_eq] at hB
    refine wpAnyH_all hB.1.1 (by simp) fun i hi => ?_
    have e : i = k := by simpa using hi
    subst e
    obtain ⟨o, ho⟩ := Option.isSome_iff_exists.1 hB.1.2
    have hk : ops.getD i default = o := by simp [Array.getD_eq_getD_getElem?, ho]
    rw [List.map_cons, hk] at h
    exact wpOp_of_one ho (h _ (fun a' w' hs h' => ⟨hs, ih _ a' w' hB.2 h'⟩))
theorem any_headS (hsel : Region.noSelect ops = true) (hQ : ∀ c a d v w, R (.panic c) (Act.put a d v) w → R (.panic c) a w) (f : Nat) (w : World) (hS : S w) (hd : List Nat) : ∀ (ls : Array Bool) (a : Act), pureB .any ops hd ls = true →
    wpQuiet P ops S (fun a' => wpAnyH P .any ops R S f (markB hd ls) a' w) (hd.map (ops.getD · default)) a → wpAnyH P .any ops R S (hd.length + f) ls a w := by
  induction hd with
  | nil => intro ls a hB h; rw [List.length_nil, Nat.zero_add]; exact h
  | cons k r ih =>
    intro ls a hB h
    simp only [pureB, Bool.and_eq_true] at hB
    cases ho : ops[k]? with
    | none => rw [ho] at hB; simp at hB
    | some o =>
      rw [ho] at hB
      have hk : ops.getD k default = o := by simp [Array.getD_eq_getD_getElem?, ho]
      rw [List.map_cons, hk] at h
      have h2 : if Region.wanted o (yielded ops a.tmps) then o.quiet P a S (wpQuiet P ops S (fun a' => wpAnyH P .any ops R S f (markB (k :: r) ls) a' w) (r.map (ops.getD · default)))
        else wpQuiet P ops S (fun a' => wpAnyH P .any ops R S f (markB (k :: r) ls) a' w) (r.map (ops.getD · default)) (a.put o.dst undef) := h
      rw [List.length_cons, Nat.add_right_comm]
      split at h2
      · next hw =>
        obtain ⟨v, hv, hn⟩ := h2
        refine wpAnyH_take ho hsel hB.1.1.2 hB.1.2 (fun c a w => hQ c a _ _ w) (.inl ⟨hw, fun w' hw' => ?_⟩) hS (ih _ _ hB.2 hn)
        have h3 := hv w' hw'
        unfold Oper.quietAt at h3
        cases hr : (execOp a.eval o).run P w' with
        | halt x u => rw [hr] at h3; simp only [Oper.quietUpon] at h3
        | ok n u =>
          obtain ⟨x, rfl⟩ := pure_run hB.1.1.1 hr
          rw [hr] at h3
          simp only [Oper.quietUpon] at h3
          rw [h3.1, h3.2]
      · next hw =>
        exact wpAnyH_take ho hsel hB.1.1.2 hB.1.2 (fun c a w => hQ c a _ _ w) (.inr ⟨by simpa using hw, rfl⟩) hS (ih _ _ hB.2 h2)
end
/-- Those of 'hd' are read first, those of 'tl' come behind them one by one: whatever order is drawn. -/
theorem wpAny_heldQ {P : Program} {R : Exit → Act → World → Prop} {a : Act} {w : World} {l : List Oper} (hd tl : List Nat)
    (hB : (Region.noSelect l.toArray && pureB .any l.toArray hd (Array.replicate l.length false) && tailB .any l.toArray tl (markB hd (Array.replicate l.length false)) && decide (hd.length + tl.length = l.length)) = true)
    (hQ : ∀ c a d v w, R (.panic c) (Act.put a d v) w → R (.panic c) a w)
    (h : wpQuiet P l.toArray (fun w' => ∃ m : QW w, w' = m.val) (fun a' => wpListS P l.toArray R (fun w' => ∃ m : QW w, w' = m.val) (tl.map (l.toArray.getD · default)) a' w.drew) (hd.map (l.toArray.getD · default)) a) :
    wpAnyH P .any l.toArray R (fun w' => ∃ m : QW w, w' = m.val) l.toArray.size (Array.replicate l.toArray.size false) a w.drew := by
  simp only [Bool.and_eq_true, decide_eq_true_eq] at hB
  obtain ⟨⟨⟨h1, h2⟩, h3⟩, h4⟩ := hB
  have e : l.toArray.size = hd.length + tl.length := by simp [h4]
  rw [e]
  have e2 : Array.replicate (hd.length + tl.length) false = Array.replicate l.length false := by rw [h4]
  rw [e2]
  refine any_headS h1 hQ tl.length _ ⟨⟨w.drew, (Q.refl w).drew⟩, rfl⟩ hd _ a h2 ?_
  exact wpQuiet_mono (fun a' h' => any_tailS tl _ a' _ h3 h') _ _ h
theorem wp_heldQ {P : Program} {id : Nat} {R : Exit → Act → World → Prop} {a : Act} {w : World} {l : List Oper} (hd tl : List Nat) (hm : P.follows .mixedOrders = true)
    (hB : (Region.noSelect l.toArray && pureB .any l.toArray hd (Array.replicate l.length false) && tailB .any l.toArray tl (markB hd (Array.replicate l.length false)) && decide (hd.length + tl.length = l.length)) = true)
    (hQ : ∀ c a d v w, R (.panic c) (Act.put a d v) w → R (.panic c) a w)
    (h : wpQuiet P l.toArray (fun w' => ∃ m : QW w, w' = m.val) (fun a' => wpListS P l.toArray R (fun w' => ∃ m : QW w, w' = m.val) (tl.map (l.toArray.getD · default)) a' w.drew) (hd.map (l.toArray.getD · default)) a) :
    (Code.region id l.toArray true).wp P R a w := wp_region_held hm (wpAny_heldQ hd tl hB hQ h)
theorem wpIn_heldQ {P : Program} {id : Nat} {R : Exit → Act → World → Prop} {a : Act} {w : World} {l : List Oper} (hd tl : List Nat) (hm : P.follows .mixedOrders = true) (hLO : ¬ LetsOut R) (hND : noDefer l.toArray = true) {r n0 : Nat}
    (hB : (Region.noSelect l.toArray && pureB .any l.toArray hd (Array.replicate l.length false) && tailB .any l.toArray tl (markB hd (Array.replicate l.length false)) && decide (hd.length + tl.length = l.length)) = true)
    (hQ : ∀ c a d v w, R (.panic c) (Act.put a d v) w → R (.panic c) a w)
    (h : wpQuiet P l.toArray (fun w' => ∃ m : QW w, w' = m.val) (fun a' => wpListS P l.toArray R (fun w' => ∃ m : QW w, w' = m.val) (tl.map (l.toArray.getD · default)) a' w.drew) (hd.map (l.toArray.getD · default)) a) :
    (Code.region id l.toArray true).wpIn (Fence.wide.inRound r) n0 P R a w := wpIn_region_round hm hLO hND (wpAny_of_held _ _ _ _ (wpAny_heldQ hd tl hB hQ h))
/-! In stages. -/
section
variable {P : Program} {ops : Array Oper} {R : Exit → Act → World → Prop} {S : World → Prop}
def wpListK (P : Program) (ops : Array Oper) (R : Exit → Act → World → Prop) (S : World → Prop) (E : Act → World → Prop) : List Oper → Act → World → Prop
  | [], a, w => E a w
  | o :: r, a, w => ∀ K : Act → World → Prop, Hid (∀ a' w', S w' → wpListK P ops R S E r a' w' → K a' w') → wpList P ops (Exit.then K R) [o] a w
def forcedB (ops : Array Oper) : List Nat → Array Bool → Bool
  | [], _ => true
  | k :: r, ls => decide (Region.ready .any ops ls = [k]) && (ops[k]?).isSome && forcedB ops r (ls.setIfInBounds k true)
theorem any_chain (f : Nat) (tl : List Nat) : ∀ (ls : Array Bool) (a : Act) (w : World) (E : Act → World → Prop), S w → forcedB ops tl ls = true → (∀ a w, S w → E a w → wpAnyH P .any ops R S f (markB tl ls) a w) →
    wpListK P ops R S E (tl.map (ops.getD · default)) a w → wpAnyH P .any ops R S (tl.length + f) ls a w := by
  induction tl with
  | nil => intro ls a w E hS hB hE h; rw [List.length_nil, Nat.zero_add]; exact hE a w hS h
  | cons k r ih =>
    intro ls a w E hS hB hE h
    simp only [forcedB, Bool.and_eq_true, decide_eq_true_eq] at hB
    rw [List.length_cons, Nat.add_right_comm]
    refine wpAnyH_all hB.1.1 (by simp) fun i hi => ?_
    have e : i = k := by simpa using hi
    subst e
    obtain ⟨o, ho⟩ := Option.isSome_iff_exists.1 hB.1.2
    have hk : ops.getD i default = o := by simp [Array.getD_eq_getD_getElem?, ho]
    rw [List.map_cons, hk] at h
    exact wpOp_of_one ho (h _ (fun a' w' hs h' => ⟨hs, ih _ a' w' E hs hB.2 hE h'⟩))
def wpPlan (P : Program) (ops : Array Oper) (R : Exit → Act → World → Prop) (S : World → Prop) : List (List Nat × List Nat) → Act → World → Prop
  | [], a, w => R .normal a w
  | (hd, tl) :: ps, a, w => wpQuiet P ops S (fun a' => wpListK P ops R S (wpPlan P ops R S ps) (tl.map (ops.getD · default)) a' w) (hd.map (ops.getD · default)) a
def planB (ops : Array Oper) : List (List Nat × List Nat) → Array Bool → Bool
  | [], ls => (Region.ready .any ops ls).isEmpty
  | (hd, tl) :: ps, ls => pureB .any ops hd ls && forcedB ops tl (markB hd ls) && planB ops ps (markB tl (markB hd ls))
def planN : List (List Nat × List Nat) → Nat
  | [] => 0
  | (hd, tl) :: ps => hd.length + (tl.length + planN ps)
theorem any_plan (hsel : Region.noSelect ops = true) (hQ : ∀ c a d v w, R (.panic c) (Act.put a d v) w → R (.panic c) a w) (ps : List (List Nat × List Nat)) : ∀ (ls : Array Bool) (a : Act) (w : World), S w → planB ops ps ls = true →
    wpPlan P ops R S ps a w → wpAnyH P .any ops R S (planN ps) ls a w := by
  induction ps with
  | nil => intro ls a w hS hB h; exact ⟨by simpa [planB] using hB, h⟩
  | cons p ps ih =>
    obtain ⟨hd, tl⟩ := p
    intro ls a w hS hB h
    simp only [planB, Bool.and_eq_true] at hB
    refine any_headS hsel hQ _ w hS hd ls a hB.1.1 ?_
    exact wpQuiet_mono (fun a' h' => any_chain _ tl _ a' w _ hS hB.1.2 (fun a w hs he => ih _ a w hs hB.2 he) h') _ _ h
end
/-- In stages: first reads, then one by one what else there is. -/
theorem wp_plan {P : Program} {id : Nat} {R : Exit → Act → World → Prop} {a : Act} {w : World} {l : List Oper} (ps : List (List Nat × List Nat)) (hm : P.follows .mixedOrders = true)
    (hB : (Region.noSelect l.toArray && planB l.toArray ps (Array.replicate l.length false) && decide (planN ps = l.length)) = true)
    (hQ : ∀ c a d v w, R (.panic c) (Act.put a d v) w → R (.panic c) a w)
    (h : wpPlan P l.toArray R (fun w' => ∃ m : QW w, w' = m.val) ps a w.drew) : (Code.region id l.toArray true).wp P R a w := by
  simp only [Bool.and_eq_true, decide_eq_true_eq] at hB
  refine wp_region_held (S := fun w' => ∃ m : QW w, w' = m.val) hm ?_
  have := any_plan hB.1.1 hQ ps (Array.replicate l.length false) a w.drew ⟨⟨w.drew, (Q.refl w).drew⟩, rfl⟩ hB.1.2 h
  rw [hB.2] at this
  exact this
theorem wpIn_plan {P : Program} {id : Nat} {R : Exit → Act → World → Prop} {a : Act} {w : World} {l : List Oper} (ps : List (List Nat × List Nat)) (hm : P.follows .mixedOrders = true) (hLO : ¬ LetsOut R) (hND : noDefer l.toArray = true) {r n0 : Nat}
    (hB : (Region.noSelect l.toArray && planB l.toArray ps (Array.replicate l.length false) && decide (planN ps = l.length)) = true)
    (hQ : ∀ c a d v w, R (.panic c) (Act.put a d v) w → R (.panic c) a w)
    (h : wpPlan P l.toArray R (fun w' => ∃ m : QW w, w' = m.val) ps a w.drew) : (Code.region id l.toArray true).wpIn (Fence.wide.inRound r) n0 P R a w := by
  simp only [Bool.and_eq_true, decide_eq_true_eq] at hB
  refine wpIn_region_round hm hLO hND (wpAny_of_held (S := fun w' => ∃ m : QW w, w' = m.val) _ _ _ _ ?_)
  have := any_plan hB.1.1 hQ ps (Array.replicate l.length false) a w.drew ⟨⟨w.drew, (Q.refl w).drew⟩, rfl⟩ hB.1.2 h
  rw [hB.2] at this
  exact this
end Go.Proofs.YtlalpnnnnmcejaaDoor
/- A region that draws its order, where two operations may come in either order: both are walked. -/
set_option linter.unusedVariables false
namespace Go.Proofs.YtlalpnnnnmcejaaDoor
open Go Go.RowKit
section
variable {P : Program} {ops : Array Oper} {R : Exit → Act → World → Prop} {S : World → Prop}
def forkB (ops : Array Oper) (x y : Nat) (ls : Array Bool) : Bool :=
  decide (Region.ready .any ops ls = [x, y]) && (ops[x]?).isSome && (ops[y]?).isSome && decide (x ≠ y) && forcedB ops [y] (ls.setIfInBounds x true) && forcedB ops [x] (ls.setIfInBounds y true)
theorem any_fork (f x y : Nat) (ls : Array Bool) (a : Act) (w : World) (E : Act → World → Prop) (hS : S w) (hB : forkB ops x y ls = true) (hE : ∀ a w, S w → E a w → wpAnyH P .any ops R S f (markB [x, y] ls) a w)
    (h1 : wpListK P ops R S E ([x, y].map (ops.getD · default)) a w) (h2 : wpListK P ops R S E ([y, x].map (ops.getD · default)) a w) : wpAnyH P .any ops R S (2 + f) ls a w := by
  simp only [forkB, Bool.and_eq_true, decide_eq_true_eq] at hB
  obtain ⟨⟨⟨⟨⟨hr, hx⟩, hy⟩, hne⟩, hB1⟩, hB2⟩ := hB
  rw [show 2 + f = (1 + f) + 1 by omega]
  refine wpAnyH_all hr (by simp) fun i hi => ?_
  have hi : i = x ∨ i = y := by simpa using hi
  rcases hi with rfl | rfl
  · obtain ⟨o, ho⟩ := Option.isSome_iff_exists.1 hx
    have hk : ops.getD i default = o := by simp [Array.getD_eq_getD_getElem?, ho]
    rw [List.map_cons, hk] at h1
    exact wpOp_of_one ho (h1 _ (fun a' w' hs h' => ⟨hs, any_chain f [y] _ a' w' E hs hB1 hE h'⟩))
  · obtain ⟨o, ho⟩ := Option.isSome_iff_exists.1 hy
    have hk : ops.getD i default = o := by simp [Array.getD_eq_getD_getElem?, ho]
    rw [List.map_cons, hk] at h2
    refine wpOp_of_one ho (h2 _ (fun a' w' hs h' => ⟨hs, any_chain f [x] _ a' w' E hs hB2 (fun a w hs he => ?_) h'⟩))
    have e : markB [x] (ls.setIfInBounds i true) = markB [x, i] ls := by
      show (ls.setIfInBounds i true).setIfInBounds x true = (ls.setIfInBounds x true).setIfInBounds i true
      rw [Array.setIfInBounds_comm _ _ (Ne.symm hne)]
    rw [e]
    exact hE a w hs he
end
/-- First reads, then x and y in either order, then the rest in stages. -/
theorem wp_fork {P : Program} {id : Nat} {R : Exit → Act → World → Prop} {a : Act} {w : World} {l : List Oper} (hd : List Nat) (x y : Nat) (ps : List (List Nat × List Nat)) (hm : P.follows .mixedOrders = true)
    (hB : (Region.noSelect l.toArray && pureB .any l.toArray hd (Array.replicate l.length false) && forkB l.toArray x y (markB hd (Array.replicate l.length false)) && planB l.toArray ps (markB [x, y] (markB hd (Array.replicate l.length false))) && decide (hd.length + (2 + planN ps) = l.length)) = true)
    (hQ : ∀ c a d v w, R (.panic c) (Act.put a d v) w → R (.panic c) a w)
    (h : wpQuiet P l.toArray (fun w' => ∃ m : QW w, w' = m.val) (fun a' => wpListK P l.toArray R (fun w' => ∃ m : QW w, w' = m.val) (wpPlan P l.toArray R (fun w' => ∃ m : QW w, w' = m.val) ps) ([x, y].map (l.toArray.getD · default)) a' w.drew ∧
      wpListK P l.toArray R (fun w' => ∃ m : QW w, w' = m.val) (wpPlan P l.toArray R (fun w' => ∃ m : QW w, w' = m.val) ps) ([y, x].map (l.toArray.getD · default)) a' w.drew) (hd.map (l.toArray.getD · default)) a) : (Code.region id l.toArray true).wp P R a w := by
  simp only [Bool.and_eq_true, decide_eq_true_eq] at hB
  obtain ⟨⟨⟨⟨h1, h2⟩, h3⟩, h4⟩, h5⟩ := hB
  refine wp_region_held (S := fun w' => ∃ m : QW w, w' = m.val) hm ?_
  have := any_headS (S := fun w' => ∃ m : QW w, w' = m.val) h1 hQ (2 + planN ps) w.drew ⟨⟨w.drew, (Q.refl w).drew⟩, rfl⟩ hd (Array.replicate l.length false) a h2 (wpQuiet_mono (fun a' h' =>
    any_fork (planN ps) x y _ a' w.drew _ ⟨⟨w.drew, (Q.refl w).drew⟩, rfl⟩ h3 (fun a w hs he => any_plan h1 hQ ps _ a w hs h4 he) h'.1 h'.2) _ _ h)
  rw [h5] at this
  exact this
end Go.Proofs.YtlalpnnnnmcejaaDoor
/- uri.digit, Decode. -/
set_option linter.unusedVariables false
set_option linter.unusedSimpArgs false
namespace Go.Proofs.YtlalpnnnnmcejaaDoor
open Go Go.RowKit
def sixL : List UInt8 := [48, 49, 50, 51, 52, 53, 54, 55, 56, 57, 97, 98, 99, 100, 101, 102, 65, 66, 67, 68, 69, 70]
def digV (b : UInt8) : Nat := if 16 ≤ Lib.indexByte sixL b then (Lib.indexByte sixL b - 6).toNat else if 0 ≤ Lib.indexByte sixL b then (Lib.indexByte sixL b).toNat else 16
theorem digV_le (b : UInt8) : digV b ≤ 16 := by
  have h : ∀ n : Fin 256, digV n.val.toUInt8 ≤ 16 := by decide +kernel
  have := h ⟨b.toNat, b.toNat_lt⟩
  simpa using this
set_option maxRecDepth 100000 in
theorem digit_any (b : UInt8) (w : World) : Calls Tryd.prog 51 #[.int .u8 b.toNat] w fun e w' => e = .returned (.int .i64 (digV b : Nat)) ∧ w' = w := by
  have hi : Lib.indexByte sixL ((b.toNat : Int).toNat.toUInt8) = Lib.indexByte sixL b := by simp
  have hz : Lib.indexByte sixL b ≤ 22 ∧ -1 ≤ Lib.indexByte sixL b := by
    have h : ∀ n : Fin 256, Lib.indexByte sixL n.val.toUInt8 ≤ 22 ∧ -1 ≤ Lib.indexByte sixL n.val.toUInt8 := by decide +kernel
    have := h ⟨b.toNat, b.toNat_lt⟩
    simpa using this
  have hv : digV b = if 16 ≤ Lib.indexByte sixL b then (Lib.indexByte sixL b - 6).toNat else if 0 ≤ Lib.indexByte sixL b then (Lib.indexByte sixL b).toNat else 16 := rfl
  generalize Lib.indexByte sixL b = z at hi hz hv
  go_enter Tryd.func51, Tryd.ntmps51
  go_wp2_with fail
  refine (Tryd.strings_IndexByte ⟨#[48, 49, 50, 51, 52, 53, 54, 55, 56, 57, 97, 98, 99, 100, 101, 102, 65, 66, 67, 68, 69, 70]⟩ _ _).mono ?_
  rintro e w1 ⟨rfl, rfl⟩
  have hi' : Lib.indexByte (⟨#[48, 49, 50, 51, 52, 53, 54, 55, 56, 57, 97, 98, 99, 100, 101, 102, 65, 66, 67, 68, 69, 70]⟩ : ByteArray).data.toList ((b.toNat : Int).toNat.toUInt8) = z := hi
  rw [hi']
  have hw : IntKind.i64.wrap (z - 6) = z - 6 := by rw [IntKind.wrap_i64]; omega
  by_cases h1 : 16 ≤ z
  · rw [if_pos h1] at hv
    go_wp2_with fail
    all_goals (go_ret; exact ⟨congrArg _ (by show Value.int .i64 _ = _; congr 1; rw [hv]; omega), rfl⟩)
  · rw [if_neg h1] at hv
    by_cases h2 : 0 ≤ z
    · rw [if_pos h2] at hv
      go_wp2_with fail
      all_goals (go_ret; exact ⟨congrArg _ (by show Value.int .i64 _ = _; congr 1; rw [hv]; omega), rfl⟩)
    · rw [if_neg h2] at hv
      go_wp2_with fail
      all_goals (go_ret; exact ⟨congrArg _ (by show Value.int .i64 _ = _; congr 1; rw [hv]; omega), rfl⟩)
end Go.Proofs.YtlalpnnnnmcejaaDoor
/- uri.Decode. -/
set_option linter.unusedVariables false
set_option linter.unusedSimpArgs false
namespace Go.Proofs.YtlalpnnnnmcejaaDoor
open Go Go.RowKit
/-- wp_plan, of whatever world the region's world has grown from. -/
theorem wp_plan_from {P : Program} {id : Nat} {R : Exit → Act → World → Prop} {a : Act} {w : World} {l : List Oper} (w0 : World) (hq0 : Q w0 w) (ps : List (List Nat × List Nat)) (hm : P.follows .mixedOrders = true)
    (hB : (Region.noSelect l.toArray && planB l.toArray ps (Array.replicate l.length false) && decide (planN ps = l.length)) = true)
    (hQ : ∀ c a d v w, R (.panic c) (Act.put a d v) w → R (.panic c) a w)
    (h : wpPlan P l.toArray R (fun w' => ∃ m : QW w0, w' = m.val) ps a w.drew) : (Code.region id l.toArray true).wp P R a w := by
  simp only [Bool.and_eq_true, decide_eq_true_eq] at hB
  refine wp_region_held (S := fun w' => ∃ m : QW w0, w' = m.val) hm ?_
  have := any_plan hB.1.1 hQ ps (Array.replicate l.length false) a w.drew ⟨⟨w.drew, hq0.drew⟩, rfl⟩ hB.1.2 h
  rw [hB.2] at this
  exact this
def decR : List UInt8 → List UInt8 × Option Nat
  | [] => ([], none)
  | c :: r =>
    if c = 37 then
      match r with
      | x :: y :: t => if 15 < digV x ∨ 15 < digV y then ([], some 0) else (UInt8.ofNat (digV x * 16 + digV y) :: (decR t).1, (decR t).2.map (· + 3))
      | _ => ([], some 0)
    else (c :: (decR r).1, (decR r).2.map (· + 1))
theorem decR_plain (c : UInt8) (r : List UInt8) (h : c ≠ 37) : decR (c :: r) = (c :: (decR r).1, (decR r).2.map (· + 1)) := by
  rcases r with _ | ⟨x, _ | ⟨y, t⟩⟩ <;> rw [decR] <;> simp [h] <;> simp [decR, h]
theorem decR_esc (x y : UInt8) (t : List UInt8) : decR (37 :: x :: y :: t) = if 15 < digV x ∨ 15 < digV y then ([], some 0) else (UInt8.ofNat (digV x * 16 + digV y) :: (decR t).1, (decR t).2.map (· + 3)) := by
  rw [decR]; simp
theorem decR_s1 : decR [37] = ([], some 0) := by rw [decR] <;> simp
theorem decR_s2 (x : UInt8) : decR [37, x] = ([], some 0) := by rw [decR] <;> simp
/-- Behind the first k bytes, of which these came. -/
def DecAt (l : List UInt8) (k : Nat) (o : List UInt8) : Prop := decR l = (o ++ (decR (l.drop k)).1, (decR (l.drop k)).2.map (· + k))
theorem DecAt.zero (l : List UInt8) : DecAt l 0 [] := by unfold DecAt; rcases h : decR l with ⟨a, b⟩; rcases b with _ | b <;> simp [h]
theorem drop_consB (l : List UInt8) (k : Nat) (h : k < l.length) : l.drop k = gB l k :: l.drop (k + 1) := by
  rw [List.drop_eq_getElem_cons h]; simp [gB, List.getD, h]
theorem DecAt.plain {l : List UInt8} {k : Nat} {o : List UInt8} (h : DecAt l k o) (hk : k < l.length) (hc : gB l k ≠ 37) : DecAt l (k + 1) (o ++ [gB l k]) := by
  unfold DecAt at *
  rw [h, drop_consB l k hk, decR_plain _ _ hc]
  rcases (decR (l.drop (k + 1))).2 with _ | b <;> simp <;> omega
theorem DecAt.short {l : List UInt8} {k : Nat} {o : List UInt8} (h : DecAt l k o) (hk : k < l.length) (hc : gB l k = 37) (hs : l.length < k + 3) : (decR l).2 = some k := by
  unfold DecAt at h
  have hd : (l.drop (k + 1)).length < 2 := by simp; omega
  rw [h, drop_consB l k hk, hc]
  rcases hr : l.drop (k + 1) with _ | ⟨x, _ | ⟨y, t⟩⟩
  · rw [decR_s1]; simp
  · rw [decR_s2]; simp
  · rw [hr] at hd; simp at hd; omega
theorem DecAt.bad {l : List UInt8} {k : Nat} {o : List UInt8} (h : DecAt l k o) (hk : k + 3 ≤ l.length) (hc : gB l k = 37) (hs : 15 < digV (gB l (k + 1)) ∨ 15 < digV (gB l (k + 2))) : (decR l).2 = some k := by
  unfold DecAt at h
  rw [h, drop_consB l k (by omega), hc, drop_consB l (k + 1) (by omega), drop_consB l (k + 2) (by omega), decR_esc]
  simp [hs]
theorem DecAt.esc {l : List UInt8} {k : Nat} {o : List UInt8} (h : DecAt l k o) (hk : k + 3 ≤ l.length) (hc : gB l k = 37) (hs : ¬ (15 < digV (gB l (k + 1)) ∨ 15 < digV (gB l (k + 2)))) :
    DecAt l (k + 3) (o ++ [UInt8.ofNat (digV (gB l (k + 1)) * 16 + digV (gB l (k + 2)))]) := by
  unfold DecAt at *
  rw [h, drop_consB l k (by omega), hc, drop_consB l (k + 1) (by omega), drop_consB l (k + 2) (by omega), decR_esc]
  rw [if_neg hs]
  rcases (decR (l.drop (k + 2 + 1))).2 with _ | b <;> simp <;> omega
theorem DecAt.done {l : List UInt8} {k : Nat} {o : List UInt8} (h : DecAt l k o) (hk : l.length ≤ k) : decR l = (o, none) := by
  unfold DecAt at h
  rw [h, List.drop_of_length_le hk]; simp [decR]
/-- What Decode hands back. -/
def decOut (l : List UInt8) : List UInt8 × Nat × Nat := match (decR l).2 with | none => ((decR l).1, 0, 0) | some k => ([], 52, k)
theorem shl16 (a : Nat) (h : a ≤ 15) : IntKind.i64.wrap ((a : Int) * 16) = (a : Int) * 16 := by rw [IntKind.wrap_i64]; omega
theorem or16 (a b : Nat) (ha : a ≤ 15) (hb : b ≤ 15) : bits .or .i64 ((a : Int) * 16) (b : Int) = (a : Int) * 16 + b := by
  have h : ∀ x y : Fin 16, bits .or .i64 ((x.val : Int) * 16) (y.val : Int) = (x.val : Int) * 16 + y.val := by decide +kernel
  exact h ⟨a, by omega⟩ ⟨b, by omega⟩
set_option maxRecDepth 100000 in
set_option maxHeartbeats 2000000 in
theorem Decode_any (l : List UInt8) (w : World) (hl : l.length ≤ 100000000) :
    Calls Tryd.prog 28 #[.string ⟨l.toArray⟩] w fun e w' => e = .returned (.tuple #[.string ⟨(decOut l).1.toArray⟩, .int .i64 (decOut l).2.1, .int .i64 (decOut l).2.2]) ∧ Q w w' := by
  go_enter Tryd.func28, Tryd.ntmps28
  go_wp2_with fail
  go_loopw [5, 6] (fun v i wr => ∃ (k : Nat) (o : List UInt8), k ≤ l.length ∧ i = .int .i64 k ∧ OwnB w wr v o ∧ o.length ≤ k ∧ Hid (DecAt l k o) ∧ Q w wr) (fun _ i _ => l.length - (intOf i).toNat)
  case atStart => exact ⟨0, [], by omega, rfl, OwnB.nil _ _, by simp, Lib.hid (DecAt.zero l), Q.refl _⟩
  case round =>
    obtain ⟨k, o, hk, rfl, hO, ho, HD, hq⟩ := hrel
    by_cases hlt : k < l.length
    · have hd : decide (k < l.length) = true := by simpa using hlt
      have HO := Lib.hid hO
      have HQ := Lib.hid hq
      clear hO hq
      by_cases hc : gB l k = 37
      · have hcn : (gB l k).toNat = 37 := by rw [hc]; rfl
        by_cases hsh : l.length < k + 3
        · have HR := Lib.hid (HD.out.short hlt hc hsh)
          have hi1 : (l.length : Int) - (k : Int) < 3 := by omega
          go_wp2_with fail
          go_ret3
          refine ⟨?_, HQ.out⟩
          show Ending.returned (.tuple #[_, _, _]) = _
          simp [decOut, HR.out]
        · have hi1 : ¬ (l.length : Int) - (k : Int) < 3 := by omega
          have hk1 : k + 1 < l.length := by omega
          have hk2 : k + 2 < l.length := by omega
          obtain ⟨x, hx⟩ : ∃ x, gB l (k + 1) = x := ⟨_, rfl⟩
          obtain ⟨y, hy⟩ : ∃ y, gB l (k + 2) = y := ⟨_, rfl⟩
          obtain ⟨X, hX⟩ : ∃ X, digV x = X := ⟨_, rfl⟩
          obtain ⟨Y, hY⟩ : ∃ Y, digV y = Y := ⟨_, rfl⟩
          have HBad : Hid (15 < X ∨ 15 < Y → (decR l).2 = some k) := Lib.hid (fun h => HD.out.bad (by omega) hc (by rw [hx, hy, hX, hY]; exact h))
          have HGood : Hid (¬ (15 < X ∨ 15 < Y) → DecAt l (k + 3) (o ++ [UInt8.ofNat (X * 16 + Y)])) := Lib.hid (fun h => by have := HD.out.esc (by omega) hc (by rw [hx, hy, hX, hY]; exact h); rwa [hx, hy, hX, hY] at this)
          by_cases hb1 : 15 < X
          · have HR := Lib.hid (HBad.out (.inl hb1))
            go_wp2_with fail
            refine (digit_any _ _).mono ?_
            rintro e wx ⟨rfl, rfl⟩
            rw [hX]
            go_wp2_with fail
            go_ret3
            refine ⟨?_, HQ.out⟩
            show Ending.returned (.tuple #[_, _, _]) = _
            simp [decOut, HR.out]
          · by_cases hb2 : 15 < Y
            · have HR := Lib.hid (HBad.out (.inr hb2))
              go_wp2_with fail
              refine (digit_any _ _).mono ?_
              rintro e wx ⟨rfl, rfl⟩
              rw [hX]
              go_wp2_with fail
              refine (digit_any _ _).mono ?_
              rintro e wx ⟨rfl, rfl⟩
              rw [hY]
              go_wp2_with fail
              go_ret3
              refine ⟨?_, HQ.out⟩
              show Ending.returned (.tuple #[_, _, _]) = _
              simp [decOut, HR.out]
            · have HR := Lib.hid (HGood.out (by omega))
              go_wp2_with fail
              refine (digit_any _ _).mono ?_
              rintro e wx ⟨rfl, rfl⟩
              rw [hX]
              go_wp2_with fail
              refine (digit_any _ _).mono ?_
              rintro e wx ⟨rfl, rfl⟩
              rw [hY]
              go_wp2_with fail
              have e1 := shl16 X (by omega)
              have e2 := or16 X Y (by omega) (by omega)
              have e3 : IntKind.u8.wrap ((X : Int) * 16 + (Y : Int)) = (X : Int) * 16 + (Y : Int) := by rw [IntKind.wrap_u8]; omega
              refine wp_region_noPanic ?_
              refine wp_plan_from w HQ.out [([0, 1, 2, 3, 4, 7, 8, 9, 10], [5]), ([6], [11]), ([12, 13], [14, 15, 16])] (by kernel_rfl) (by kernel_rfl) (fun _ _ _ _ _ h => h) ?_
              simp only [wpPlan, wpListK, List.map_cons, List.map_nil, Array.getD_eq_getD_getElem?, List.getElem?_toArray, List.getElem?_cons_succ, List.getElem?_cons_zero, Option.getD_some]
              (repeat (go_big_quiet_step (fail)))
              refine wpQuiet_nil ?_
              intro K hK
              go_wp2_with fail
              refine (digit_any _ _).mono ?_
              rintro e wx ⟨rfl, rfl⟩
              rw [hX]
              go_wp2_with fail
              refine hK.out _ _ ⟨⟨_, HQ.out.drew⟩, rfl⟩ ?_
              clear hK K
              (repeat (go_big_quiet_step (fail)))
              refine wpQuiet_nil ?_
              intro K hK
              go_wp2_with fail
              refine (digit_any _ _).mono ?_
              rintro e wx ⟨rfl, rfl⟩
              rw [hY]
              go_wp2_with fail
              refine hK.out _ _ ⟨⟨_, HQ.out.drew⟩, rfl⟩ ?_
              clear hK K
              (repeat (go_big_quiet_step (fail)))
              refine wpQuiet_nil ?_
              intro K hK
              go_wp2_with fail
              obtain ⟨WA, hWA⟩ : ∃ WA, (wx.alloc (Obj.cells #[Value.int IntKind.u8 ((X : Int) * 16 + (Y : Int))] 5)).drew = WA := ⟨_, rfl⟩
              have hqA : Q wx WA := by rw [← hWA]; exact ((Q.refl wx).alloc _).drew
              have hcA : WA.cell? ⟨wx.heap.size, 0, none⟩ = some (.int .u8 ((X : Int) * 16 + (Y : Int))) := by
                rw [← hWA]
                exact ((Q.refl _).drew).cell (by rw [cell_of_row _ _ _ _ _ _ (heap_alloc_new wx _)]; rfl)
              rw [hWA]
              clear hWA
              refine hK.out _ _ ⟨⟨WA, HQ.out.trans hqA⟩, rfl⟩ ?_
              clear hK K
              have hb8 : UInt8.ofNat (X * 16 + Y) = UInt8.ofNat (X * 16 + Y) := rfl
              have hu8 : ((UInt8.ofNat (X * 16 + Y)).toNat : Int) = (X : Int) * 16 + (Y : Int) := by
                rw [UInt8.toNat_ofNat']; omega
              intro K hK
              refine wpList_append_from rfl (.tmp 45) (.tmp 59) rfl w WA u5 o rfl (HO.out.q hqA) (HQ.out.trans hqA) ⟨wx.heap.size, 0, none⟩ [UInt8.ofNat (X * 16 + Y)] 1 1 rfl rfl (fun j h => ?_) (by constructor <;> omega) ?_
              · simp at h
                subst h
                rw [add_off, Nat.zero_add, hcA]
                simp only [u8V, List.getElem_cons_zero]
                rw [hu8]
              intro v2 w2 ho2 hq2 hgb
              refine wpList_nil ?_
              refine hK.out _ _ ⟨⟨w2, hq2⟩, rfl⟩ ?_
              clear hK K
              have HO2 := Lib.hid ho2
              have HQ2 := Lib.hid hq2
              have HD2 := Lib.hid HR.out
              clear ho2 hq2 hgb hqA hcA HO HQ HD HBad HGood
              intro K hK
              go_wp2_with fail
              refine hK.out _ _ ⟨⟨w2, HQ2.out⟩, rfl⟩ ?_
              clear hK K
              refine NoPanic.normal ?_
              go_wp2_with fail
              go_roundw
              case rel => exact ⟨k + 3, _, by omega, by go_num, HO2.out, by simp; omega, HD2, HQ2.out⟩
              case measure => simp [intOf]; omega
      · have hcn : (gB l k).toNat ≠ 37 := fun h => hc (UInt8.toNat_inj.mp (by simpa using h))
        go_wp2_with (at_builtin; refine wpList_append_b rfl (.tmp 17) (.tmp 21) rfl w _ _ _ rfl HO.out HQ.out [gB l k] 1 rfl rfl (by constructor <;> omega) ?_)
        intro v2 w2 ho2 hq2 _ _
        have HO2 := Lib.hid ho2
        have HQ2 := Lib.hid hq2
        have HD2 := Lib.hid (HD.out.plain hlt hc)
        clear ho2 hq2 HO HQ HD
        go_wp2_with fail
        go_roundw
        case rel => exact ⟨k + 1, _, by omega, by go_num, HO2.out, by simp; omega, HD2, HQ2.out⟩
        case measure => simp [intOf]; omega
    · have hdd := HD.out.done (by omega)
      have hcv := conv_b hO
      go_wp2_with fail
      go_ret3
      refine ⟨?_, hq⟩
      show Ending.returned (.tuple #[_, _, _]) = _
      simp [decOut, hdd]
end Go.Proofs.YtlalpnnnnmcejaaDoor
/- What the Uri laws ask of the library's variables; Split, Join. -/
set_option linter.unusedVariables false
set_option linter.unusedSimpArgs false
namespace Go.Proofs.YtlalpnnnnmcejaaDoor
open Go Go.RowKit
def MaxL (w : World) : Prop := ∃ m, w.cell? ⟨0, 0, none⟩ = some (.int .i64 m)
structure U13 (w : World) : Prop where
  ml : MaxL w
  cv : Lib.CaseVar 1 Lib.caseA w
  ut : Lib.Utf8Tabs 2 3 w
theorem Q.bel {a b : World} (h : Q a b) : Below a.heap.size a b := h
theorem U13.q {w w' : World} (h : U13 w) (hq : Q w w') : U13 w' := ⟨h.ml.elim fun m hm => ⟨m, hq.cell hm⟩, Lib.CaseVar_below h.cv hq, Utf8Tabs_below h.ut hq⟩
theorem max_shaped {w : World} (h : w.ShapedOpen Tryd.prog) : MaxL w := cell_of_shapedOpen_int (g := 0) (t := 3) (zero := #[.int .i64 0]) h (of_decide_eq_true (by kernel_rfl)) (by kernel_rfl) rfl (by kernel_rfl) (by kernel_rfl) Tryd.underlying3
/-- What stands ahead of the first c, what behind it, whether there is one. -/
def cutB (c : UInt8) : List UInt8 → List UInt8 × List UInt8 × Bool
  | [] => ([], [], false)
  | x :: r => if x = c then ([], r, true) else (x :: (cutB c r).1, (cutB c r).2)
theorem index_one_cons (c x : UInt8) (r : List UInt8) : Lib.index (x :: r) [c] = if x = c then 0 else if Lib.index r [c] = -1 then -1 else Lib.index r [c] + 1 := by
  rw [Lib.index]
  by_cases h : x = c
  · subst h; simp
  · have h' : ¬ c = x := fun e => h e.symm
    simp [h, h']
theorem index_one_ge (c : UInt8) (l : List UInt8) : -1 ≤ Lib.index l [c] := by
  induction l with
  | nil => simp [Lib.index]
  | cons x r ih => rw [index_one_cons]; split <;> (try split) <;> omega
theorem cut_one (c : UInt8) (l : List UInt8) : Lib.cut l [c] = cutB c l := by
  induction l with
  | nil => simp [Lib.cut, Lib.index, cutB]
  | cons x r ih =>
    unfold cutB
    by_cases h : x = c
    · rw [if_pos h]; unfold Lib.cut; rw [index_one_cons, if_pos h]; simp
    · rw [if_neg h, ← ih]
      unfold Lib.cut
      rw [index_one_cons, if_neg h]
      have := index_one_ge c r
      by_cases h1 : Lib.index r [c] = -1
      · simp [h1]
      · have h2 : 0 ≤ Lib.index r [c] := by omega
        rw [if_neg h1, if_pos h2, if_pos (by omega)]
        have e : (Lib.index r [c] + 1).toNat = (Lib.index r [c]).toNat + 1 := by omega
        rw [e]; simp [Nat.add_assoc]
theorem cut_any (l : List UInt8) (c : UInt8) (w : World) (h : MaxL w) (hs : l.length < 4294967281) :
    Calls Tryd.prog 22 #[.string ⟨l.toArray⟩, .string ⟨#[c]⟩] w fun e w' => e = .returned (.tuple #[.string ⟨(cutB c l).1.toArray⟩, .string ⟨(cutB c l).2.1.toArray⟩, .bool (cutB c l).2.2]) ∧ Q w w' := by
  obtain ⟨m, hm⟩ := h
  refine (Tryd.strings_Cut ⟨l.toArray⟩ ⟨#[c]⟩ m w hs hm).mono ?_
  rintro e w' ⟨rfl, n, rfl⟩
  have hc := cut_one c l
  refine ⟨?_, below_drewNg w n⟩
  show Ending.returned (.tuple #[.string ⟨(Lib.cut l [c]).1.toArray⟩, .string ⟨(Lib.cut l [c]).2.1.toArray⟩, .bool (Lib.cut l [c]).2.2]) = _
  rw [hc]
def splitU (l : List UInt8) : List UInt8 × List UInt8 := match l with | [] => ([], []) | x :: r => if x = 47 then ((cutB 47 r).1, (cutB 47 r).2.1) else ([], [])
set_option maxHeartbeats 1000000 in
theorem Split_any (l : List UInt8) (w : World) (h : U13 w) (hs : l.length < 4294967281) :
    Calls Tryd.prog 8 #[.string ⟨l.toArray⟩] w fun e w' => e = .returned (.tuple #[.string ⟨(splitU l).1.toArray⟩, .string ⟨(splitU l).2.toArray⟩]) ∧ Q w w' := by
  have HM := Lib.hid h.ml
  clear h
  have hp : Lib.hasPrefix l [47] = false ∧ splitU l = ([], []) ∨ ∃ r, l = 47 :: r := by
    rcases l with _ | ⟨x, r⟩
    · exact .inl ⟨rfl, rfl⟩
    · by_cases hx : x = 47
      · exact .inr ⟨r, by rw [hx]⟩
      · refine .inl ⟨?_, by simp [splitU, hx]⟩
        have hx' : ¬ 47 = x := fun e => hx e.symm
        simp [Lib.hasPrefix, List.isPrefixOf, hx']
  go_enter Tryd.func8, Tryd.ntmps8
  rcases hp with ⟨hp, ho⟩ | ⟨r, rfl⟩
  · go_wp2_with fail
    refine (Tryd.strings_CutPrefix ⟨l.toArray⟩ ⟨#[47]⟩ w).mono ?_
    rintro e w' ⟨rfl, rfl⟩
    have hp' : Lib.hasPrefix (⟨l.toArray⟩ : ByteArray).data.toList (⟨#[47]⟩ : ByteArray).data.toList = false := hp
    have ht : Lib.trimPrefix (⟨l.toArray⟩ : ByteArray).data.toList (⟨#[47]⟩ : ByteArray).data.toList = l := by unfold Lib.trimPrefix; rw [hp']; rfl
    rw [hp', ht]
    go_wp2_with fail
    go_ret2
    rw [ho]
    exact ⟨rfl, Q.refl _⟩
  · go_wp2_with fail
    refine (Tryd.strings_CutPrefix ⟨(47 :: r).toArray⟩ ⟨#[47]⟩ w).mono ?_
    rintro e w' ⟨rfl, rfl⟩
    have hp' : Lib.hasPrefix (⟨(47 :: r).toArray⟩ : ByteArray).data.toList (⟨#[47]⟩ : ByteArray).data.toList = true := by simp [Lib.hasPrefix, List.isPrefixOf]
    have ht : Lib.trimPrefix (⟨(47 :: r).toArray⟩ : ByteArray).data.toList (⟨#[47]⟩ : ByteArray).data.toList = r := by unfold Lib.trimPrefix; rw [hp']; rfl
    rw [hp', ht]
    go_wp2_with fail
    refine (cut_any r 47 _ HM.out (by simp at hs; omega)).mono ?_
    rintro e w' ⟨rfl, hq⟩
    go_wp2_with fail
    go_ret2
    exact ⟨rfl, hq⟩
end Go.Proofs.YtlalpnnnnmcejaaDoor
/- What the Uri rows list of package-level variables, and what it gives the walks. -/
set_option linter.unusedVariables false
namespace Go.Proofs.YtlalpnnnnmcejaaDoor
open Go Go.RowKit
def laidU : List (String × DataW Unit) := [("unicode/utf8.acceptRanges", Rows.laid_unicode_utf8_acceptRanges), ("unicode.CaseRanges", Rows.laid_unicode_CaseRanges), ("unicode/utf8.first", Rows.laid_unicode_utf8_first)]
set_option maxRecDepth 100000 in
theorem pinned_case : Go.Pinned.caseRanges = Lib.caseData := by kernel_rfl
set_option maxRecDepth 100000 in
theorem pinned_first : Go.Pinned.utf8First = Lib.firstData := by kernel_rfl
theorem accept_data : (Rows.laid_unicode_utf8_acceptRanges : DataW Unit) = Lib.acceptData := by kernel_rfl
theorem u13_of_laid {W : World} (h : laidMetH Tryd.prog laidU W) (hs : W.ShapedOpen Tryd.prog) : U13 W := by
  rw [MakeChecks.laidMetH_plain _ _ _ (by kernel_rfl)] at h
  have ha : Lib.VarReads Tryd.prog W "unicode/utf8.acceptRanges" Lib.acceptData := accept_data ▸ Lib.laidMet.reads h (.head _)
  have hc : Lib.VarReads Tryd.prog W "unicode.CaseRanges" Lib.caseData := pinned_case ▸ Lib.laidMet.reads h (.tail _ (.head _))
  have hf : Lib.VarReads Tryd.prog W "unicode/utf8.first" Lib.firstData := pinned_first ▸ Lib.laidMet.reads h (.tail _ (.tail _ (.head _)))
  exact ⟨max_shaped hs,
    caseVar_of_reads (ρ := Tryd.lays159_ren) { Tryd.lays159 with } Tryd.lays159.t206 ⟨by kernel_rfl, by kernel_rfl, by kernel_rfl, by kernel_rfl, by kernel_rfl, by kernel_rfl⟩ hc,
    utf8Tabs_of_reads (ρ := Tryd.lays159_ren) { Tryd.lays159 with } ⟨by kernel_rfl, by kernel_rfl, by kernel_rfl, by kernel_rfl, by kernel_rfl, by kernel_rfl, by kernel_rfl⟩ hf ha⟩
theorem door_laid (os : Os) (args : Array Value) : laidMetH Tryd.prog laidU ((World.laidAll Tryd.prog os laidU).forCall (fun _ _ => 0) ⟨#[], args, []⟩).memory := by
  rw [MakeChecks.laidMetH_plain _ _ _ (by kernel_rfl)]; exact laidMet_laidAll _ (by kernel_rfl) (by kernel_rfl)
end Go.Proofs.YtlalpnnnnmcejaaDoor
/- slices.SortFunc of pairs: the shelf's contract, laid at this seat by names (printed by genslf.py). -/
set_option linter.unusedVariables false
namespace Go.Proofs.YtlalpnnnnmcejaaDoor
open Go Go.RowKit
def lUr_ren : Go.Shelf.Ren := ⟨fun | 6 => 11 | 14 => 29 | 15 => 30 | 20 => 52 | 21 => 53 | 22 => 54 | 23 => 55 | 24 => 56 | 25 => 57 | 26 => 58 | 27 => 59 | 28 => 60 | 29 => 61 | 46 => 79 | 47 => 80 | 48 => 81 | 49 => 82 | 50 => 83 | 57 => 96 | n => n, fun | 0 => 0 | 3 => 3 | 4 => 4 | 5 => 5 | 9 => 9 | 22 => 22 | 24 => 25 | 25 => 37 | 39 => 58 | 45 => 82 | 46 => 83 | 50 => 87 | 53 => 90 | 55 => 92 | 66 => 103 | 70 => 107 | 76 => 119 | 77 => 120 | n => n, fun n => n⟩
theorem lUr6 : Go.Proofs.SlLaysF0.n6 Tryd.prog lUr_ren := {
  mixed := by kernel_rfl
  f6 := ⟨Tryd.f11.name, by decide, Tryd.func11.trans (congrArg some (by kernel_rfl))⟩
  f14 := ⟨Tryd.f29.name, by decide, Tryd.func29.trans (congrArg some (by kernel_rfl))⟩
  f15 := Tryd.func30.trans (congrArg some (by kernel_rfl))
  f20 := ⟨Tryd.f52.name, by decide, Tryd.func52.trans (congrArg some (by kernel_rfl))⟩
  f21 := ⟨Tryd.f53.name, by decide, Tryd.func53.trans (congrArg some (by kernel_rfl))⟩
  f22 := ⟨Tryd.f54.name, by decide, Tryd.func54.trans (congrArg some (by kernel_rfl))⟩
  f23 := ⟨Tryd.f55.name, by decide, Tryd.func55.trans (congrArg some (by kernel_rfl))⟩
  f24 := ⟨Tryd.f56.name, by decide, Tryd.func56.trans (congrArg some (by kernel_rfl))⟩
  f25 := ⟨Tryd.f57.name, by decide, Tryd.func57.trans (congrArg some (by kernel_rfl))⟩
  f26 := ⟨Tryd.f58.name, by decide, Tryd.func58.trans (congrArg some (by kernel_rfl))⟩
  f27 := ⟨Tryd.f59.name, by decide, Tryd.func59.trans (congrArg some (by kernel_rfl))⟩
  f28 := Tryd.func60.trans (congrArg some (by kernel_rfl))
  f29 := Tryd.func61.trans (congrArg some (by kernel_rfl))
  f46 := ⟨Tryd.f79.name, by decide, Tryd.func79.trans (congrArg some (by kernel_rfl))⟩
  f47 := Tryd.func80.trans (congrArg some (by kernel_rfl))
  f48 := Tryd.func81.trans (congrArg some (by kernel_rfl))
  f49 := ⟨Tryd.f82.name, by decide, Tryd.func82.trans (congrArg some (by kernel_rfl))⟩
  f50 := ⟨Tryd.f83.name, by decide, Tryd.func83.trans (congrArg some (by kernel_rfl))⟩
  f57 := ⟨Tryd.f96.name, by decide, Tryd.func96.trans (congrArg some (by kernel_rfl))⟩
  t0 := Tryd.underlying0
  a0 := Tryd.isAgg0
  z0 := Tryd.sizeOf0
  v0 := Tryd.zeroValue0
  t3 := Tryd.underlying3
  a3 := Tryd.isAgg3
  z3 := Tryd.sizeOf3
  v3 := Tryd.zeroValue3
  t4 := Tryd.underlying4
  a4 := Tryd.isAgg4
  z4 := Tryd.sizeOf4
  v4 := Tryd.zeroValue4
  t5 := Tryd.underlying5
  a5 := Tryd.isAgg5
  z5 := Tryd.sizeOf5
  v5 := Tryd.zeroValue5
  t9 := Tryd.underlying9
  a9 := Tryd.isAgg9
  z9 := Tryd.sizeOf9
  v9 := Tryd.zeroValue9
  t22 := Tryd.underlying22
  a22 := Tryd.isAgg22
  z22 := Tryd.sizeOf22
  v22 := Tryd.zeroValue22
  t25 := Tryd.underlying37
  a25 := Tryd.isAgg37
  z25 := Tryd.sizeOf37
  v25 := Tryd.zeroValue37
  t39 := Tryd.underlying58
  a39 := Tryd.isAgg58
  z39 := Tryd.sizeOf58
  v39 := Tryd.zeroValue58
  t45 := Tryd.underlying82
  a45 := Tryd.isAgg82
  z45 := Tryd.sizeOf82
  v45 := Tryd.zeroValue82
  t46 := Tryd.underlying83
  a46 := Tryd.isAgg83
  z46 := Tryd.sizeOf83
  v46 := Tryd.zeroValue83
  t50 := Tryd.underlying87
  a50 := Tryd.isAgg87
  z50 := Tryd.sizeOf87
  v50 := Tryd.zeroValue87
  t53 := Tryd.underlying90
  a53 := Tryd.isAgg90
  z53 := Tryd.sizeOf90
  v53 := Tryd.zeroValue90
  t55 := Tryd.underlying92
  a55 := Tryd.isAgg92
  z55 := Tryd.sizeOf92
  v55 := Tryd.zeroValue92
  t66 := Tryd.underlying103
  a66 := Tryd.isAgg103
  z66 := Tryd.sizeOf103
  v66 := Tryd.zeroValue103
  t70 := Tryd.underlying107
  a70 := Tryd.isAgg107
  z70 := Tryd.sizeOf107
  v70 := Tryd.zeroValue107
  t76 := Tryd.underlying119
  a76 := Tryd.isAgg119
  z76 := Tryd.sizeOf119
  v76 := Tryd.zeroValue119
  t77 := Tryd.underlying120
  a77 := Tryd.isAgg120
  z77 := Tryd.sizeOf120
  v77 := Tryd.zeroValue120
  }
end Go.Proofs.YtlalpnnnnmcejaaDoor
