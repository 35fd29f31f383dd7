/- Texts of this proof, laid into one: Mix, Rnd, Hld, Fin. -/
import Derived.Test.YtlhhiiemojhjdaaDoorMp07
import Derived.RangeFuncCalls
import Derived.OrdersIn
import Derived.OrdersHeld
import Derived.TacticsIn
/- A region that draws its order: operations that read no memory first, then calls that may lay new memory, then a rest in a forced order. -/
set_option linter.unusedVariables false
namespace Go.Proofs.YtlhhiiemojhjdaaDoor
open Go Go.RowKit
section
variable {P : Program} {ops : Array Oper} {R : Exit → Act → World → Prop} {C : World → Prop}
theorem held_of_any {md : Region.Mode} (f : Nat) : ∀ (ls : Array Bool) (a : Act) (w : World), wpAny P md ops R f ls a w → wpAnyH P md ops R (fun _ => True) f ls a w := by
  induction f with
  | zero => intro ls a w h; exact h
  | succ f ih => intro ls a w h; exact ⟨h.1, fun i hi => wpOp_mono (fun a' w' h' => ⟨trivial, ih _ a' w' h'⟩) (h.2 i hi)⟩
/-- Whatever order is picked among those of H. -/
def mixQ (P : Program) (ops : Array Oper) (C : World → Prop) (H : Nat → Prop) (L : Array Bool → Act → Prop) : Nat → Array Bool → Act → Prop
  | 0, ls, a => L ls a
  | f + 1, ls, a => Region.ready .any ops ls ≠ [] ∧ ∀ i ∈ Region.ready .any ops ls, H i ∧ qOp P ops C i (mixQ P ops C H L f (ls.setIfInBounds i true)) a
theorem any_of_mixQ {H : Nat → Prop} {g : Nat} {L : Array Bool → Act → Prop} (hL : ∀ ls a w, C w → L ls a → wpAny P .any ops R g ls a w) (f : Nat) :
    ∀ (ls : Array Bool) (a : Act) (w : World), C w → mixQ P ops C H L f ls a → wpAny P .any ops R (f + g) ls a w := by
  induction f with
  | zero => intro ls a w hw h; rw [Nat.zero_add]; exact hL _ _ _ hw h
  | succ f ih =>
    intro ls a w hw h
    rw [Nat.add_right_comm]
    exact ⟨fun h0 => (h.1 h0).elim, fun i hi => wpOp_of_qOp hw (fun a' w' hw' hk => ih _ a' w' hw' hk) (h.2 i hi).2⟩
/-- What has come up so far: those of ls1, and some of H, each behind those that it waits for. -/
structure MixInv (ops : Array Oper) (ls1 : Array Bool) (H : Nat → Prop) (ls : Array Bool) : Prop where
  size : ls.size = ops.size
  closed : ∀ j oj, ops[j]? = some oj → ls.getD j false = true → ∀ e ∈ oj.after, Region.binds .any e = true → ls.getD e.on false = true
  rest : ∀ t, ¬ H t → ls1.getD t true = false → ls.getD t true = false
  more : ∀ t, ls1.getD t true = true → ls.getD t true = true
theorem MixInv.set {ls1 : Array Bool} {H : Nat → Prop} {i : Nat} {ls : Array Bool} (inv : MixInv ops ls1 H ls) (hi : i ∈ Region.ready .any ops ls) (hin : H i) : MixInv ops ls1 H (ls.setIfInBounds i true) := by
  obtain ⟨_, oi, hoi, hall⟩ := mem_ready.1 hi
  refine ⟨by simp [inv.size], fun j oj hj hl e he hb => ?_, fun t ht ht' => ?_, fun t ht => ?_⟩
  · by_cases hij : i = j
    · subst hij
      have : oj = oi := Option.some.inj (hj.symm.trans hoi)
      subst this
      exact getD_set_true (hall e he hb)
    · rw [getD_set_ne false hij] at hl
      exact getD_set_true (inv.closed j oj hj hl e he hb)
  · have : i ≠ t := fun h => ht (h ▸ hin)
    rw [getD_set_ne true this]; exact inv.rest t ht ht'
  · by_cases hij : i = t
    · subst hij
      by_cases hs : i < ls.size
      · simp [hs]
      · simp [hs]
    · rw [getD_set_ne true hij]; exact inv.more t ht
/-- Each of qs is waited for by a later one of qs, or by the first of tl; each of tl by the next. -/
def sinkL (ops : Array Oper) (qs : List Nat) (t0 : Nat) : Bool := qs.all fun i => (t0 :: qs).any fun j => decide (i < j) && Region.waitsFor .any ops j i
def chainL (ops : Array Oper) : List Nat → Bool
  | a :: b :: r => Region.waitsFor .any ops b a && chainL ops (b :: r)
  | _ => true
theorem chainL_prev {tl : List Nat} (h : chainL ops tl = true) : ∀ t ∈ tl.tail, ∃ s ∈ tl, Region.waitsFor .any ops t s = true := by
  induction tl with
  | nil => intro t ht; cases ht
  | cons a r ih =>
    cases r with
    | nil => intro t ht; cases ht
    | cons b r =>
      simp only [chainL, Bool.and_eq_true] at h
      intro t ht
      rcases List.mem_cons.1 ht with e | e
      · subst e; exact ⟨a, by simp, h.1⟩
      · obtain ⟨s, hs, hs2⟩ := ih h.2 t e
        exact ⟨s, List.mem_cons_of_mem _ hs, hs2⟩
theorem mix_waits {ls1 ls : Array Bool} {qs : List Nat} {t0 : Nat} {tr : List Nat} {N : Nat} (hN : ∀ i ∈ t0 :: qs, i < N) (hs : sinkL ops qs t0 = true) (hc : chainL ops (t0 :: tr) = true) (hT : ∀ t ∈ t0 :: tr, t ∉ qs ∧ ls1.getD t true = false) (hsz : ∀ i ∈ t0 :: qs, i < ops.size)
    (inv : MixInv ops ls1 (· ∈ qs) ls) : ∀ (d i : Nat), N - i = d → i ∈ qs → ls.getD i true = false → ∀ t ∈ t0 :: tr, t ∉ Region.ready .any ops ls := by
  intro d
  induction d using Nat.strongRecOn with
  | _ d ih =>
    intro i hd hi hun t ht hr
    obtain ⟨_, ot, hot, hall⟩ := mem_ready.1 hr
    rcases List.mem_cons.1 ht with e | e
    · subst e
      have h1 := List.all_eq_true.1 hs i hi
      obtain ⟨j, hj, hj2⟩ := List.any_eq_true.1 h1
      simp only [Bool.and_eq_true, decide_eq_true_eq] at hj2
      obtain ⟨oj, hoj, e, he, hb, hon⟩ := Region.waitsFor_spec hj2.2
      rcases List.mem_cons.1 hj with hjt | hjt
      · subst hjt
        have : oj = ot := Option.some.inj (hoj.symm.trans hot)
        subst this
        have h2 := hall e he hb
        rw [hon, getD_both hun] at h2
        cases h2
      · have hjN := hN j (List.mem_cons_of_mem _ hjt)
        cases hl : ls.getD j false with
        | true =>
          have h2 := inv.closed j oj hoj hl e he hb
          rw [hon, getD_both hun] at h2
          cases h2
        | false =>
          have hjs : j < ls.size := by rw [inv.size]; exact hsz j (List.mem_cons_of_mem _ hjt)
          exact ih (N - j) (by omega) j rfl hjt (getD_in hjs hl) t ht hr
    · obtain ⟨s, hs1, hs2⟩ := chainL_prev hc t (by simpa using e)
      obtain ⟨o', ho', e', he, hb, hon⟩ := Region.waitsFor_spec hs2
      have : o' = ot := Option.some.inj (ho'.symm.trans hot)
      subst this
      have h2 := hall e' he hb
      have h3 := hT s hs1
      rw [hon, getD_both (inv.rest s h3.1 h3.2)] at h2
      cases h2
/-- One that may come up now may be taken first. -/
theorem mixQ_first {ls1 : Array Bool} {H : Nat → Prop} {i : Nat} {oi : Oper} {v : Value} {L : Array Bool → Act → Prop} (hi : ops[i]? = some oi) (hsel : ∀ (j : Nat) (o : Oper) cs b, ops[j]? = some o → o.op ≠ .select cs b)
    (hwait : ∀ ls, MixInv ops ls1 H ls → ∀ i, H i → ls.getD i true = false → ∀ t, t ∈ Region.ready .any ops ls → H t) (hin : H i) (hdone : ∀ ls a, L ls a → ∀ j ∈ Region.ready .any ops ls, ¬ H j) (f : Nat) :
    ∀ (ls : Array Bool) (a : Act), MixInv ops ls1 H ls →
      (∀ j oj, ops[j]? = some oj → j ≠ i → ls.getD j true = false → (∀ e ∈ oj.after, Region.binds .any e = true → e.on ≠ i) → oi.apart ops oj = true) →
      i ∈ Region.ready .any ops ls → YieldsIn P ops C oi v a → mixQ P ops C H L f (ls.setIfInBounds i true) (a.put oi.dst v) → mixQ P ops C H L (f + 1) ls a := by
  induction f with
  | zero =>
    intro ls a inv _ hr hy H'
    have hun := (mem_ready.1 hr).1
    refine ⟨List.ne_nil_of_mem hr, fun j hj => ?_⟩
    have hjn : H j := hwait ls inv i hin hun j hj
    by_cases e : j = i
    · rw [e] at hjn ⊢; exact ⟨hjn, hy.qOp hi H'⟩
    · exact absurd hjn (hdone _ _ H' j (ready_mono hj e))
  | succ f ih =>
    intro ls a inv hfree hr hy H'
    have hun := (mem_ready.1 hr).1
    refine ⟨List.ne_nil_of_mem hr, fun j hj => ?_⟩
    have hjn : H j := hwait ls inv i hin hun j hj
    by_cases e : j = i
    · rw [e] at hjn ⊢; exact ⟨hjn, hy.qOp hi H'⟩
    · refine ⟨hjn, ?_⟩
      obtain ⟨hjun, oj, hoj, hall⟩ := mem_ready.1 hj
      have hno : ∀ x ∈ oj.after, Region.binds .any x = true → x.on ≠ i := by
        intro x hx hb he
        have := hall x hx hb
        rw [he, getD_both hun] at this
        cases this
      have h2 := qOp_put hoj (hfree j oj hoj e hjun hno) (fun cs b => hsel i oi cs b hi) (fun cs b => hsel j oj cs b hoj) hy (H'.2 j (ready_mono hj e)).2
      refine qOp_mono (fun a' h3 => ih _ a' (inv.set hj hjn) (fun k ok hk hki hku hkn => hfree k ok hk hki ?_ hkn) (ready_mono hr (Ne.symm e)) h3.1 (by rw [Array.setIfInBounds_comm _ _ e]; exact h3.2)) h2
      by_cases hjk : j = k
      · rw [← hjk]; exact hjun
      · rwa [getD_set_ne true hjk] at hku
def quietsB (ops : Array Oper) (tl : List Nat) : List Nat → Array Bool → Bool
  | [], ls => tailB .any ops tl ls
  | k :: r, ls => (ops[k]?).isSome && (Region.ready .any ops ls).contains k && Region.free .any ops ls k && quietsB ops tl r (ls.setIfInBounds k true)
theorem mixQ_lex {ls1 : Array Bool} {H : Nat → Prop} {K : Act → Prop} {tl : List Nat} (hsel : Region.noSelect ops = true) (hwait : ∀ ls, MixInv ops ls1 H ls → ∀ i, H i → ls.getD i true = false → ∀ t, t ∈ Region.ready .any ops ls → H t)
    (htl : ∀ t ∈ tl, ¬ H t) (l : List Nat) :
    ∀ (ls : Array Bool) (a : Act), (∀ k ∈ l, H k) → MixInv ops ls1 H ls → quietsB ops tl l ls = true →
    wpQuiet P ops C K (l.map (ops.getD · default)) a → mixQ P ops C H (fun ls' a' => tailB .any ops tl ls' = true ∧ K a') l.length ls a := by
  have hdone : ∀ ls' (a' : Act), (tailB .any ops tl ls' = true ∧ K a') → ∀ j ∈ Region.ready .any ops ls', ¬ H j := by
    intro ls' a' h j hj
    cases tl with
    | nil => simp only [tailB, List.isEmpty_iff] at h; rw [h.1] at hj; cases hj
    | cons t r =>
      simp only [tailB, Bool.and_eq_true, decide_eq_true_eq] at h
      rw [h.1.1.1] at hj
      have : j = t := by simpa using hj
      subst this
      exact htl _ (by simp)
  induction l with
  | nil => intro ls a _ _ hB h; exact ⟨by simpa [quietsB] using hB, h⟩
  | cons k r ih =>
    intro ls a hl inv hB h
    simp only [quietsB, Bool.and_eq_true] at hB
    obtain ⟨o, ho⟩ := Option.isSome_iff_exists.1 hB.1.1.1
    have hr : k ∈ Region.ready .any ops ls := by simpa using hB.1.1.2
    have hk : ops.getD k default = o := by simp [Array.getD_eq_getD_getElem?, ho]
    rw [List.map_cons, hk] at h
    have hq : qOp P ops C k (wpQuiet P ops C K (r.map (ops.getD · default))) a := by unfold qOp; simp only [ho]; exact h
    obtain ⟨v, hy, hK⟩ := yieldsIn_of_qOp ho hq
    refine mixQ_first ho (Region.noSelect_spec hsel) hwait (hl k (by simp)) hdone r.length ls a inv (Region.free_spec ho hB.1.2) hr hy ?_
    exact ih _ _ (fun k' hk' => hl k' (List.mem_cons_of_mem _ hk')) (inv.set hr (hl k (by simp))) hB.2 hK
/-- All that the order of a mixed region asks: decided by running it. -/
def mixB (ops : Array Oper) (hd qs : List Nat) (t0 : Nat) (tr : List Nat) : Bool :=
  let ls0 := Array.replicate ops.size false
  let ls1 := markB hd ls0
  Region.noSelect ops && pureB .any ops hd ls0 && quietsB ops (t0 :: tr) qs ls1 && sinkL ops qs t0 && chainL ops (t0 :: tr) &&
    (t0 :: tr).all (fun t => !qs.contains t && !(ls1.getD t true)) && (t0 :: qs).all (fun i => decide (i < ops.size)) && decide (hd.length + (qs.length + (t0 :: tr).length) = ops.size) &&
    (List.range ops.size).all (fun i => ls1.getD i true || qs.contains i || (t0 :: tr).contains i) && decide (ls1.size = ops.size) &&
    (List.range ops.size).all (fun j => match ops[j]? with | some oj => !(ls1.getD j false) || oj.after.all (fun e => !Region.binds .any e || ls1.getD e.on false) | none => true)
end
/-- 'hd' read no memory and are taken first; 'qs' are quiet in every world that w grows to (calls may lay new memory); t0 :: tr come behind, in that order. -/
theorem wp_region_mix {P : Program} {id : Nat} {R : Exit → Act → World → Prop} {a : Act} {w : World} {l : List Oper} (hd qs : List Nat) (t0 : Nat) (tr : List Nat) (hm : P.follows .mixedOrders = true)
    (hB : mixB l.toArray hd qs t0 tr = true) (hQ : ∀ c a d v w, R (.panic c) (Act.put a d v) w → R (.panic c) a w)
    (h : wpQuiet P l.toArray (fun _ => True) (fun a' => wpQuiet P l.toArray (fun w' => ∃ m : QW w, w' = m.val) (fun a'' => ∀ w', (∃ m : QW w, w' = m.val) → wpList P l.toArray R ((t0 :: tr).map (l.toArray.getD · default)) a'' w') (qs.map (l.toArray.getD · default)) a') (hd.map (l.toArray.getD · default)) a) :
    (Code.region id l.toArray true).wp P R a w := by
  simp only [mixB, Bool.and_eq_true, decide_eq_true_eq] at hB
  obtain ⟨⟨⟨⟨⟨⟨⟨⟨⟨⟨h1, h2⟩, h3⟩, h4⟩, h5⟩, h6⟩, h7⟩, h8⟩, h9⟩, h10⟩, h11⟩ := hB
  refine wp_region_held (S := fun _ => True) hm ?_
  rw [← h8]
  have e2 : Array.replicate (hd.length + (qs.length + (t0 :: tr).length)) false = Array.replicate l.toArray.size false := by rw [h8]
  rw [e2]
  generalize hls : markB hd (Array.replicate l.toArray.size false) = ls1 at *
  refine any_head h1 hQ _ _ hd _ a h2 (wpQuiet_mono (fun a' h' => ?_) _ _ h)
  rw [hls]
  refine held_of_any _ _ _ _ ?_
  have hT : ∀ t ∈ t0 :: tr, t ∉ qs ∧ ls1.getD t true = false := by
    intro t ht
    have := List.all_eq_true.1 h6 t ht
    simpa using this
  have hsz : ∀ i ∈ t0 :: qs, i < l.toArray.size := fun i hi => by have := List.all_eq_true.1 h7 i hi; simpa using this
  have hwait : ∀ ls, MixInv l.toArray ls1 (· ∈ qs) ls → ∀ i, i ∈ qs → ls.getD i true = false → ∀ t, t ∈ Region.ready .any l.toArray ls → t ∈ qs := by
    intro ls inv i hi hun t ht
    obtain ⟨htun, ot, hot, _⟩ := mem_ready.1 ht
    have htl : t < l.toArray.size := (Array.getElem?_eq_some_iff.1 hot).1
    have := List.all_eq_true.1 h9 t (List.mem_range.2 htl)
    simp only [Bool.or_eq_true, List.contains_iff_mem] at this
    rcases this with (g | g) | g
    · rw [inv.more t g] at htun; cases htun
    · exact g
    · exact absurd ht (mix_waits hsz h4 h5 hT hsz inv _ i rfl hi hun t g)
  have inv0 : MixInv l.toArray ls1 (· ∈ qs) ls1 := ⟨h10, fun j oj hj hl e he hb => by
    have hjl : j < l.toArray.size := (Array.getElem?_eq_some_iff.1 hj).1
    have := List.all_eq_true.1 h11 j (List.mem_range.2 hjl)
    rw [hj] at this
    simp only [hl, Bool.not_true, Bool.false_or] at this
    have := Array.all_eq_true'.1 this e he
    simpa [hb] using this, fun t _ h => h, fun t h => h⟩
  have H := mixQ_lex (C := fun w' => ∃ m : QW w, w' = m.val) h1 hwait (fun t ht => (hT t ht).1) qs ls1 a' (fun k hk => hk) inv0 h3 h'
  exact any_of_mixQ (fun ls a w hw hL => wpAny_of_held _ _ _ _ (any_tail _ _ _ _ hL.1 (hL.2 w hw))) _ _ _ _ ⟨⟨w.drew, (Q.refl w).drew⟩, rfl⟩ H
/-- A whole array or struct that stands in a block is read alike in every world of the class. -/
theorem wpQuiet_load_row {P : Program} {ops : Array Oper} {C : World → Prop} {K : Act → Prop} {rest : List Oper} {o : Oper} {a : Act} (hgd : o.guard = none) (ty : TypeId) (x : Operand) (ho : o.op = .load ty x)
    (g : Nat) (hx : a.eval x = .pointer (some ⟨g, 0, none⟩)) (t : TypeId) (cs : Array Value) (fr : Nat × Nat) (d : TypeDesc) (hg : ∀ w, C w → w.heap[g]? = some (.cells cs t fr))
    (hu : P.underlying ty = some d) (hd : (match d with | .struct _ | .array _ _ => true | _ => false) = true) (hi : (P.info? ty).map (·.size) = some cs.size)
    (h : wpQuiet P ops C K rest (a.put o.dst (.agg cs))) : wpQuiet P ops C K (o :: rest) a := by
  have hw : Region.wanted o (yielded ops a.tmps) = true := by simp [Region.wanted, hgd]
  unfold wpQuiet
  rw [if_pos hw]
  refine ⟨_, fun w hC => ?_, h⟩
  unfold Oper.quietAt execOp
  simp only [ho, hx, Instr.loadAt, Instr.sureAddr, Sem.run_bind, Sem.run_pure, Result.andThen_ok, run_loadVar_row w g t ty cs fr d (hg w hC) hu hd hi]
  exact ⟨rfl, rfl⟩
/-- A conversion that answers alike in every world of the class. -/
theorem wpQuiet_conv {P : Program} {ops : Array Oper} {C : World → Prop} {K : Act → Prop} {rest : List Oper} {o : Oper} {a : Act} (hgd : o.guard = none) (s d : TypeId) (x : Operand) (ho : o.op = .convert s d x) (v u : Value)
    (hx : a.eval x = v) (hr : ∀ w, C w → (convert s d v).run P w = .ok u w) (h : wpQuiet P ops C K rest (a.put o.dst u)) : wpQuiet P ops C K (o :: rest) a := by
  have hw : Region.wanted o (yielded ops a.tmps) = true := by simp [Region.wanted, hgd]
  unfold wpQuiet
  rw [if_pos hw]
  refine ⟨_, fun w hC => ?_, h⟩
  unfold Oper.quietAt execOp
  simp only [ho, hx, Sem.run_bind, Sem.run_pure, hr w hC, Result.andThen_ok]
  exact ⟨rfl, rfl⟩
end Go.Proofs.YtlhhiiemojhjdaaDoor
/- A drawn region within a round of a range over a function: a plain law on it serves there too. -/
set_option linter.unusedVariables false
namespace Go.Proofs.YtlhhiiemojhjdaaDoor
open Go Go.RowKit
section
variable {P : Program} {ops : Array Oper} {Q : Exit → Act → World → Prop} {l n : Nat}
theorem upon_in {o : Oper} {a : Act} {next : Act → World → Prop} (r : Result Next) (h : o.upon P a next Q r) : o.uponIn (Fence.wide.inRound l) n P a next Q r := by
  cases r with
  | ok x w' =>
    cases x with
    | value v => exact h
    | skip => exact h
    | defer d => exact h
    | enter f args => exact ⟨fun h => by simp [Fence.wide, Fence.inRound] at h, CallsIn.inRound l (callsIn_wide.2 h)⟩
    | row r args => exact ⟨fun h => by simp [Fence.wide, Fence.inRound] at h, fun c cs _ => let ⟨v, w', r, s⟩ := h c cs; ⟨v, w', r, stepsIn_wide.2 s⟩⟩
    | _ => first | exact h.elim | exact h
  | halt x w' =>
    cases x <;> exact h
theorem wpOp_in {i : Nat} {K : Act → World → Prop} {a : Act} {w : World} (hQ : ¬ LetsOut Q) (hnd : ∀ (i : Nat) (o : Oper) (c : Call), ops[i]? = some o → o.op ≠ .defer c) (h : wpOp P ops Q i K a w) : wpOpIn (Fence.wide.inRound l) n P ops Q i K a w := by
  unfold wpOp at h
  unfold wpOpIn
  cases ho : ops[i]? with
  | none => rw [ho] at h; exact h
  | some o =>
    rw [ho] at h
    simp only at h ⊢
    by_cases hw : Region.wanted o (yielded ops a.tmps) = true
    · rw [if_pos hw] at h ⊢
      rcases h with h | ⟨_, h⟩
      · refine ⟨fun _ _ => trivial, ?_⟩
        rw [Oper.semAt_eq _ _ _ (fun c => hnd i o c ho)]
        exact upon_in _ h
      · exact absurd h hQ
    · rw [if_neg hw] at h ⊢
      exact ⟨fun _ _ => trivial, h⟩
theorem wpOpIn_K {i : Nat} {K K' : Act → World → Prop} {a : Act} {w : World} (hk : ∀ a w, K a w → K' a w) (h : wpOpIn (Fence.wide.inRound l) n P ops Q i K a w) : wpOpIn (Fence.wide.inRound l) n P ops Q i K' a w := wpOpIn_mono hk h
theorem wpAny_in {md : Region.Mode} (hQ : ¬ LetsOut Q) (hnd : ∀ (i : Nat) (o : Oper) (c : Call), ops[i]? = some o → o.op ≠ .defer c) (f : Nat) : ∀ (ls : Array Bool) (a : Act) (w : World), wpAny P md ops Q f ls a w → wpAnyIn (Fence.wide.inRound l) n P md ops Q f ls a w := by
  induction f with
  | zero => intro ls a w h; exact h
  | succ f ih => intro ls a w h; exact ⟨h.1, fun i hi => wpOpIn_mono (fun a w => ih _ a w) (wpOp_in hQ hnd (h.2 i hi))⟩
def noDefer (ops : Array Oper) : Bool := ops.all fun o => match o.op with | .defer _ => false | _ => true
theorem noDefer_spec (h : noDefer ops = true) : ∀ (i : Nat) (o : Oper) (c : Call), ops[i]? = some o → o.op ≠ .defer c := by
  intro i o c ho e
  have h1 := Array.all_eq_true.1 h
  obtain ⟨hi, ho'⟩ := Array.getElem?_eq_some_iff.1 ho
  have h2 := h1 i hi
  rw [ho'] at h2
  simp only [e, Bool.false_eq_true] at h2
/-- A region law's own end, taken within a round. -/
theorem wpIn_region_round {id : Nat} {a : Act} {w : World} (hm : P.follows .mixedOrders = true) (hQ : ¬ LetsOut Q) (hnd : noDefer ops = true)
    (h : wpAny P .any ops Q ops.size (Array.replicate ops.size false) a { w with drawn := w.drawn + 1 }) : (Code.region id ops true).wpIn (Fence.wide.inRound l) n P Q a w :=
  wpIn_region_any hm (wpAny_in hQ (noDefer_spec hnd) _ _ _ _ h)
end
theorem wpIn_quiet_tail {C : World → Prop} {P : Program} {id : Nat} {R : Exit → Act → World → Prop} {a : Act} {w : World} {l : List Oper} (n : Nat) (hm : P.follows .mixedOrders = true) (hLO : ¬ LetsOut R) (hND : noDefer l.toArray = true) {r n0 : Nat} (hB : Region.lexTailB .any l.toArray n = true)
    (hC : C { w with drawn := w.drawn + 1 }) (h : wpQuiet P l.toArray C (fun a' => ∀ w', C w' → wpList P l.toArray R (l.drop n) a' w') (l.take n) a) : (Code.region id l.toArray true).wpIn (Fence.wide.inRound r) n0 P R a w := by
  simp only [Region.lexTailB, Bool.and_eq_true, decide_eq_true_eq] at hB
  have hn : n < l.length := by simpa using hB.1.1.1.2
  have htl : (l.take n).length = n := by simp; omega
  have hdl : (l.drop n).length = l.toArray.size - n := by simp
  have inv0 : HeadInv .any l.toArray n (Array.replicate l.toArray.size false) :=
    ⟨by simp, fun j oj _ hl => (by rw [getD_replicate_false] at hl; cases hl), fun t _ ht => getD_in (by simpa using ht) (getD_replicate_false _ _)⟩
  have H := headQ_lex (md := .any) (C := C) (g := l.toArray.size - n) hB.1.1.1.1 hB.1.1.2 hB.1.2 hB.1.1.1.2 (l.take n) 0 _ a (fun j hj => by rw [htl] at hj; simp [hj]) (by simpa using htl) inv0 (by rw [htl]; exact hB.2) h
  refine wpIn_region_round hm hLO hND ?_
  have := any_of_headQ (C := C) (R := R) (g := l.toArray.size - n) (fun ls a' w' hw' hL => by
    have h1 := wpAny_of_seq (md := .any) (Q' := R) (l.drop n) n ls a' w' (fun j => by simp [List.getElem?_drop]) (by rw [hdl]; exact hL.1) (hL.2 w' hw')
    rwa [hdl] at h1) _ _ _ _ hC H
  have hsz : n + (l.toArray.size - n) = l.toArray.size := by
    have : l.toArray.size = l.length := by simp
    omega
  rwa [htl, hsz] at this
theorem wpIn_pure {P : Program} {id : Nat} {R : Exit → Act → World → Prop} {a : Act} {w : World} {l : List Oper} (hd tl : List Nat) (hm : P.follows .mixedOrders = true) (hLO : ¬ LetsOut R) (hND : noDefer l.toArray = true) {r n0 : Nat}
    (hB : (Region.noSelect l.toArray && pureB .any l.toArray hd (Array.replicate l.length false) && tailB .any l.toArray tl (markB hd (Array.replicate l.length false)) && decide (hd.length + tl.length = l.length)) = true)
    (hQ : ∀ c a d v w, R (.panic c) (Act.put a d v) w → R (.panic c) a w)
    (h : wpQuiet P l.toArray (fun _ => True) (fun a' => wpList P l.toArray R (tl.map (l.toArray.getD · default)) a' w.drew) (hd.map (l.toArray.getD · default)) a) : (Code.region id l.toArray true).wpIn (Fence.wide.inRound r) n0 P R a w := by
  simp only [Bool.and_eq_true, decide_eq_true_eq] at hB
  obtain ⟨⟨⟨h1, h2⟩, h3⟩, h4⟩ := hB
  refine wpIn_region_round hm hLO hND (wpAny_of_held (S := fun _ => True) _ _ _ _ ?_)
  have e : l.toArray.size = hd.length + tl.length := by simp [h4]
  rw [e]
  have e2 : Array.replicate (hd.length + tl.length) false = Array.replicate l.length false := by rw [h4]
  rw [e2]
  refine any_head h1 hQ tl.length _ hd _ a h2 ?_
  exact wpQuiet_mono (fun a' h' => any_tail tl _ a' _ h3 h') _ _ h
theorem wpIn_mix {P : Program} {id : Nat} {R : Exit → Act → World → Prop} {a : Act} {w : World} {l : List Oper} (hd qs : List Nat) (t0 : Nat) (tr : List Nat) (hm : P.follows .mixedOrders = true) (hLO : ¬ LetsOut R) (hND : noDefer l.toArray = true) {r n0 : Nat}
    (hB : mixB l.toArray hd qs t0 tr = true) (hQ : ∀ c a d v w, R (.panic c) (Act.put a d v) w → R (.panic c) a w)
    (h : wpQuiet P l.toArray (fun _ => True) (fun a' => wpQuiet P l.toArray (fun w' => ∃ m : QW w, w' = m.val) (fun a'' => ∀ w', (∃ m : QW w, w' = m.val) → wpList P l.toArray R ((t0 :: tr).map (l.toArray.getD · default)) a'' w') (qs.map (l.toArray.getD · default)) a') (hd.map (l.toArray.getD · default)) a) :
    (Code.region id l.toArray true).wpIn (Fence.wide.inRound r) n0 P R a w := by
  simp only [mixB, Bool.and_eq_true, decide_eq_true_eq] at hB
  obtain ⟨⟨⟨⟨⟨⟨⟨⟨⟨⟨h1, h2⟩, h3⟩, h4⟩, h5⟩, h6⟩, h7⟩, h8⟩, h9⟩, h10⟩, h11⟩ := hB
  refine wpIn_region_round hm hLO hND (wpAny_of_held (S := fun _ => True) _ _ _ _ ?_)
  rw [← h8]
  have e2 : Array.replicate (hd.length + (qs.length + (t0 :: tr).length)) false = Array.replicate l.toArray.size false := by rw [h8]
  rw [e2]
  generalize hls : markB hd (Array.replicate l.toArray.size false) = ls1 at *
  refine any_head h1 hQ _ _ hd _ a h2 (wpQuiet_mono (fun a' h' => ?_) _ _ h)
  rw [hls]
  refine held_of_any _ _ _ _ ?_
  have hT : ∀ t ∈ t0 :: tr, t ∉ qs ∧ ls1.getD t true = false := by
    intro t ht
    have := List.all_eq_true.1 h6 t ht
    simpa using this
  have hsz : ∀ i ∈ t0 :: qs, i < l.toArray.size := fun i hi => by have := List.all_eq_true.1 h7 i hi; simpa using this
  have hwait : ∀ ls, MixInv l.toArray ls1 (· ∈ qs) ls → ∀ i, i ∈ qs → ls.getD i true = false → ∀ t, t ∈ Region.ready .any l.toArray ls → t ∈ qs := by
    intro ls inv i hi hun t ht
    obtain ⟨htun, ot, hot, _⟩ := mem_ready.1 ht
    have htl : t < l.toArray.size := (Array.getElem?_eq_some_iff.1 hot).1
    have := List.all_eq_true.1 h9 t (List.mem_range.2 htl)
    simp only [Bool.or_eq_true, List.contains_iff_mem] at this
    rcases this with (g | g) | g
    · rw [inv.more t g] at htun; cases htun
    · exact g
    · exact absurd ht (mix_waits hsz h4 h5 hT hsz inv _ i rfl hi hun t g)
  have inv0 : MixInv l.toArray ls1 (· ∈ qs) ls1 := ⟨h10, fun j oj hj hl e he hb => by
    have hjl : j < l.toArray.size := (Array.getElem?_eq_some_iff.1 hj).1
    have := List.all_eq_true.1 h11 j (List.mem_range.2 hjl)
    rw [hj] at this
    simp only [hl, Bool.not_true, Bool.false_or] at this
    have := Array.all_eq_true'.1 this e he
    simpa [hb] using this, fun t _ h => h, fun t h => h⟩
  have H := mixQ_lex (C := fun w' => ∃ m : QW w, w' = m.val) h1 hwait (fun t ht => (hT t ht).1) qs ls1 a' (fun k hk => hk) inv0 h3 h'
  exact any_of_mixQ (fun ls a w hw hL => wpAny_of_held _ _ _ _ (any_tail _ _ _ _ hL.1 (hL.2 w hw))) _ _ _ _ ⟨⟨w.drew, (Q.refl w).drew⟩, rfl⟩ H
theorem wpIn_quiet {P : Program} {ops : Array Oper} {C : World → Prop} {id : Nat} {Q : Exit → Act → World → Prop} {a : Act} {w : World} {r n0 : Nat} (hm : P.follows .mixedOrders = true) (hLO : ¬ LetsOut Q) (hND : noDefer ops = true) (hB : Region.lexB .any ops = true) (hC : C { w with drawn := w.drawn + 1 })
    (h : wpQuiet P ops C (fun a' => ∀ w', C w' → Q .normal a' w') ops.toList a) : (Code.region id ops true).wpIn (Fence.wide.inRound r) n0 P Q a w := by
  simp only [Region.lexB, Bool.and_eq_true] at hB
  refine wpIn_region_round hm hLO hND (wpAny_of_quiet (Q := fun a' => ∀ w', C w' → Q .normal a' w') (fun _ w' hw' h => h w' hw') _ _ _ _ hC ?_)
  have := wpAnyQ_lex (C := C) (md := .any) hB.1 ops.toList 0 (Array.replicate ops.size false) a (by simp) (by simpa using hB.2) h
  simpa using this
theorem wpOps_in {P : Program} {ops : Array Oper} {Q : Exit → Act → World → Prop} {r n0 : Nat} (hQ : ¬ LetsOut Q) (hnd : ∀ (i : Nat) (o : Oper) (c : Call), ops[i]? = some o → o.op ≠ .defer c) (l : List Nat) : ∀ (a : Act) (w : World), wpOps P ops Q l a w → wpOpsIn (Fence.wide.inRound r) n0 P ops Q l a w := by
  induction l with
  | nil => intro a w h; exact h
  | cons i l ih =>
    intro a w h
    rw [wpOps_cons] at h
    rw [wpOpsIn_cons]
    exact wpOpIn_mono (fun a w => ih a w) (wpOp_in hQ hnd h)
/-- A region that does not draw. -/
theorem wpIn_list {P : Program} {id : Nat} {l : List Oper} {Q : Exit → Act → World → Prop} {a : Act} {w : World} {r n0 : Nat} (hLO : ¬ LetsOut Q) (hND : noDefer l.toArray = true) (h : wpList P l.toArray Q l a w) : (Code.region id l.toArray false).wpIn (Fence.wide.inRound r) n0 P Q a w :=
  wpIn_region (wpOps_in hLO (noDefer_spec hND) _ _ _ (by
    rw [List.range_eq_range', ← Array.length_toList, wpOps_eq_wpList l.toArray.toList 0 (by simp)]
    simpa using h))
end Go.Proofs.YtlhhiiemojhjdaaDoor
/- A region that draws its order, in a plain walk or in a round: loads of cells that stay may be taken first, beside operations that lay memory. -/
set_option linter.unusedVariables false
namespace Go.Proofs.YtlhhiiemojhjdaaDoor
open Go Go.RowKit
section
variable {P : Program} {ops : Array Oper} {R : Exit → Act → World → Prop} {S : World → Prop}
/-- One behind the other; behind each S is shown anew. -/
def wpListS (P : Program) (ops : Array Oper) (R : Exit → Act → World → Prop) (S : World → Prop) : List Oper → Act → World → Prop
  | [], a, w => R .normal a w
  | o :: r, a, w => ∀ K : Act → World → Prop, (∀ a' w', S w' → wpListS P ops R S r a' w' → K a' w') → wpList P ops (Exit.then K R) [o] a w
theorem upon_then {o : Oper} {a : Act} {K : Act → World → Prop} (r : Result Next) (h : o.upon P a (wpList P ops (Exit.then K R) []) (Exit.then K R) r) : o.upon P a K R r := by
  cases r with
  | ok x w' =>
    cases x with
    | value v => exact h
    | skip => exact h
    | defer d => exact h
    | enter f args =>
      refine Calls.mono h fun e w'' he => ?_
      cases e with
      | returned u => exact he
      | panicked c => exact he
      | outgrown => exact he
    | row r args => exact Rows.mono h fun u w'' he => he
    | _ => first | exact h.elim | exact h
  | halt x w' =>
    cases x <;> exact h
theorem wpOp_of_one {i : Nat} {o : Oper} {a : Act} {w : World} {K : Act → World → Prop} (ho : ops[i]? = some o) (h : wpList P ops (Exit.then K R) [o] a w) : wpOp P ops R i K a w := by
  unfold wpOp
  simp only [ho]
  unfold wpList at h
  split at h
  · next hw =>
    rw [if_pos hw]
    rcases h with h | ⟨h1, h2⟩
    · exact .inl (upon_then _ h)
    · exact .inr ⟨h1, h2⟩
  · next hw =>
    rw [if_neg hw]
    exact h
theorem any_tailS (tl : List Nat) : ∀ (ls : Array Bool) (a : Act) (w : World), tailB .any ops tl ls = true → wpListS P ops R S (tl.map (ops.getD · default)) a w → wpAnyH P .any ops R S tl.length ls a w := by
  induction tl with
  | nil => intro ls a w hB h; exact ⟨by simpa [tailB] using hB, h⟩
  | cons k r ih =>
    intro ls a w hB h
    simp only [tailB, Bool.and_eq_true, decide_eq_true_eq] at hB
    refine wpAnyH_all hB.1.1 (by simp) fun i hi => ?_
    have e : i = k := by simpa using hi
    subst e
    obtain ⟨o, ho⟩ := Option.isSome_iff_exists.1 hB.1.2
    have hk : ops.getD i default = o := by simp [Array.getD_eq_getD_getElem?, ho]
    rw [List.map_cons, hk] at h
    exact wpOp_of_one ho (h _ (fun a' w' hs h' => ⟨hs, ih _ a' w' hB.2 h'⟩))
theorem any_headS (hsel : Region.noSelect ops = true) (hQ : ∀ c a d v w, R (.panic c) (Act.put a d v) w → R (.panic c) a w) (f : Nat) (w : World) (hS : S w) (hd : List Nat) : ∀ (ls : Array Bool) (a : Act), pureB .any ops hd ls = true →
    wpQuiet P ops S (fun a' => wpAnyH P .any ops R S f (markB hd ls) a' w) (hd.map (ops.getD · default)) a → wpAnyH P .any ops R S (hd.length + f) ls a w := by
  induction hd with
  | nil => intro ls a hB h; rw [List.length_nil, Nat.zero_add]; exact h
  | cons k r ih =>
    intro ls a hB h
    simp only [pureB, Bool.and_eq_true] at hB
    cases ho : ops[k]? with
    | none => rw [ho] at hB; simp at hB
    | some o =>
      rw [ho] at hB
      have hk : ops.getD k default = o := by simp [Array.getD_eq_getD_getElem?, ho]
      rw [List.map_cons, hk] at h
      have h2 : if Region.wanted o (yielded ops a.tmps) then o.quiet P a S (wpQuiet P ops S (fun a' => wpAnyH P .any ops R S f (markB (k :: r) ls) a' w) (r.map (ops.getD · default)))
        else wpQuiet P ops S (fun a' => wpAnyH P .any ops R S f (markB (k :: r) ls) a' w) (r.map (ops.getD · default)) (a.put o.dst undef) := h
      rw [List.length_cons, Nat.add_right_comm]
      split at h2
      · next hw =>
        obtain ⟨v, hv, hn⟩ := h2
        refine wpAnyH_take ho hsel hB.1.1.2 hB.1.2 (fun c a w => hQ c a _ _ w) (.inl ⟨hw, fun w' hw' => ?_⟩) hS (ih _ _ hB.2 hn)
        have h3 := hv w' hw'
        unfold Oper.quietAt at h3
        cases hr : (execOp a.eval o).run P w' with
        | halt x u => rw [hr] at h3; simp only [Oper.quietUpon] at h3
        | ok n u =>
          obtain ⟨x, rfl⟩ := pure_run hB.1.1.1 hr
          rw [hr] at h3
          simp only [Oper.quietUpon] at h3
          rw [h3.1, h3.2]
      · next hw =>
        exact wpAnyH_take ho hsel hB.1.1.2 hB.1.2 (fun c a w => hQ c a _ _ w) (.inr ⟨by simpa using hw, rfl⟩) hS (ih _ _ hB.2 h2)
end
/-- Those of 'hd' are read first, those of 'tl' come behind them one by one: whatever order is drawn. -/
theorem wpAny_heldQ {P : Program} {R : Exit → Act → World → Prop} {a : Act} {w : World} {l : List Oper} (hd tl : List Nat)
    (hB : (Region.noSelect l.toArray && pureB .any l.toArray hd (Array.replicate l.length false) && tailB .any l.toArray tl (markB hd (Array.replicate l.length false)) && decide (hd.length + tl.length = l.length)) = true)
    (hQ : ∀ c a d v w, R (.panic c) (Act.put a d v) w → R (.panic c) a w)
    (h : wpQuiet P l.toArray (fun w' => ∃ m : QW w, w' = m.val) (fun a' => wpListS P l.toArray R (fun w' => ∃ m : QW w, w' = m.val) (tl.map (l.toArray.getD · default)) a' w.drew) (hd.map (l.toArray.getD · default)) a) :
    wpAnyH P .any l.toArray R (fun w' => ∃ m : QW w, w' = m.val) l.toArray.size (Array.replicate l.toArray.size false) a w.drew := by
  simp only [Bool.and_eq_true, decide_eq_true_eq] at hB
  obtain ⟨⟨⟨h1, h2⟩, h3⟩, h4⟩ := hB
  have e : l.toArray.size = hd.length + tl.length := by simp [h4]
  rw [e]
  have e2 : Array.replicate (hd.length + tl.length) false = Array.replicate l.length false := by rw [h4]
  rw [e2]
  refine any_headS h1 hQ tl.length _ ⟨⟨w.drew, (Q.refl w).drew⟩, rfl⟩ hd _ a h2 ?_
  exact wpQuiet_mono (fun a' h' => any_tailS tl _ a' _ h3 h') _ _ h
theorem wp_heldQ {P : Program} {id : Nat} {R : Exit → Act → World → Prop} {a : Act} {w : World} {l : List Oper} (hd tl : List Nat) (hm : P.follows .mixedOrders = true)
    (hB : (Region.noSelect l.toArray && pureB .any l.toArray hd (Array.replicate l.length false) && tailB .any l.toArray tl (markB hd (Array.replicate l.length false)) && decide (hd.length + tl.length = l.length)) = true)
    (hQ : ∀ c a d v w, R (.panic c) (Act.put a d v) w → R (.panic c) a w)
    (h : wpQuiet P l.toArray (fun w' => ∃ m : QW w, w' = m.val) (fun a' => wpListS P l.toArray R (fun w' => ∃ m : QW w, w' = m.val) (tl.map (l.toArray.getD · default)) a' w.drew) (hd.map (l.toArray.getD · default)) a) :
    (Code.region id l.toArray true).wp P R a w := wp_region_held hm (wpAny_heldQ hd tl hB hQ h)
theorem wpIn_heldQ {P : Program} {id : Nat} {R : Exit → Act → World → Prop} {a : Act} {w : World} {l : List Oper} (hd tl : List Nat) (hm : P.follows .mixedOrders = true) (hLO : ¬ LetsOut R) (hND : noDefer l.toArray = true) {r n0 : Nat}
    (hB : (Region.noSelect l.toArray && pureB .any l.toArray hd (Array.replicate l.length false) && tailB .any l.toArray tl (markB hd (Array.replicate l.length false)) && decide (hd.length + tl.length = l.length)) = true)
    (hQ : ∀ c a d v w, R (.panic c) (Act.put a d v) w → R (.panic c) a w)
    (h : wpQuiet P l.toArray (fun w' => ∃ m : QW w, w' = m.val) (fun a' => wpListS P l.toArray R (fun w' => ∃ m : QW w, w' = m.val) (tl.map (l.toArray.getD · default)) a' w.drew) (hd.map (l.toArray.getD · default)) a) :
    (Code.region id l.toArray true).wpIn (Fence.wide.inRound r) n0 P R a w := wpIn_region_round hm hLO hND (wpAny_of_held _ _ _ _ (wpAny_heldQ hd tl hB hQ h))
/-! In stages. -/
section
variable {P : Program} {ops : Array Oper} {R : Exit → Act → World → Prop} {S : World → Prop}
def wpListK (P : Program) (ops : Array Oper) (R : Exit → Act → World → Prop) (S : World → Prop) (E : Act → World → Prop) : List Oper → Act → World → Prop
  | [], a, w => E a w
  | o :: r, a, w => ∀ K : Act → World → Prop, Hid (∀ a' w', S w' → wpListK P ops R S E r a' w' → K a' w') → wpList P ops (Exit.then K R) [o] a w
def forcedB (ops : Array Oper) : List Nat → Array Bool → Bool
  | [], _ => true
  | k :: r, ls => decide (Region.ready .any ops ls = [k]) && (ops[k]?).isSome && forcedB ops r (ls.setIfInBounds k true)
theorem any_chain (f : Nat) (tl : List Nat) : ∀ (ls : Array Bool) (a : Act) (w : World) (E : Act → World → Prop), S w → forcedB ops tl ls = true → (∀ a w, S w → E a w → wpAnyH P .any ops R S f (markB tl ls) a w) →
    wpListK P ops R S E (tl.map (ops.getD · default)) a w → wpAnyH P .any ops R S (tl.length + f) ls a w := by
  induction tl with
  | nil => intro ls a w E hS hB hE h; rw [List.length_nil, Nat.zero_add]; exact hE a w hS h
  | cons k r ih =>
    intro ls a w E hS hB hE h
    simp only [forcedB, Bool.and_eq_true, decide_eq_true_eq] at hB
    rw [List.length_cons, Nat.add_right_comm]
    refine wpAnyH_all hB.1.1 (by simp) fun i hi => ?_
    have e : i = k := by simpa using hi
    subst e
    obtain ⟨o, ho⟩ := Option.isSome_iff_exists.1 hB.1.2
    have hk : ops.getD i default = o := by simp [Array.getD_eq_getD_getElem?, ho]
    rw [List.map_cons, hk] at h
    exact wpOp_of_one ho (h _ (fun a' w' hs h' => ⟨hs, ih _ a' w' E hs hB.2 hE h'⟩))
def wpPlan (P : Program) (ops : Array Oper) (R : Exit → Act → World → Prop) (S : World → Prop) : List (List Nat × List Nat) → Act → World → Prop
  | [], a, w => R .normal a w
  | (hd, tl) :: ps, a, w => wpQuiet P ops S (fun a' => wpListK P ops R S (wpPlan P ops R S ps) (tl.map (ops.getD · default)) a' w) (hd.map (ops.getD · default)) a
def planB (ops : Array Oper) : List (List Nat × List Nat) → Array Bool → Bool
  | [], ls => (Region.ready .any ops ls).isEmpty
  | (hd, tl) :: ps, ls => pureB .any ops hd ls && forcedB ops tl (markB hd ls) && planB ops ps (markB tl (markB hd ls))
def planN : List (List Nat × List Nat) → Nat
  | [] => 0
  | (hd, tl) :: ps => hd.length + (tl.length + planN ps)
theorem any_plan (hsel : Region.noSelect ops = true) (hQ : ∀ c a d v w, R (.panic c) (Act.put a d v) w → R (.panic c) a w) (ps : List (List Nat × List Nat)) : ∀ (ls : Array Bool) (a : Act) (w : World), S w → planB ops ps ls = true →
    wpPlan P ops R S ps a w → wpAnyH P .any ops R S (planN ps) ls a w := by
  induction ps with
  | nil => intro ls a w hS hB h; exact ⟨by simpa [planB] using hB, h⟩
  | cons p ps ih =>
    obtain ⟨hd, tl⟩ := p
    intro ls a w hS hB h
    simp only [planB, Bool.and_eq_true] at hB
    refine any_headS hsel hQ _ w hS hd ls a hB.1.1 ?_
    exact wpQuiet_mono (fun a' h' => any_chain _ tl _ a' w _ hS hB.1.2 (fun a w hs he => ih _ a w hs hB.2 he) h') _ _ h
end
/-- In stages: first reads, then one by one what else there is. -/
theorem wp_plan {P : Program} {id : Nat} {R : Exit → Act → World → Prop} {a : Act} {w : World} {l : List Oper} (ps : List (List Nat × List Nat)) (hm : P.follows .mixedOrders = true)
    (hB : (Region.noSelect l.toArray && planB l.toArray ps (Array.replicate l.length false) && decide (planN ps = l.length)) = true)
    (hQ : ∀ c a d v w, R (.panic c) (Act.put a d v) w → R (.panic c) a w)
    (h : wpPlan P l.toArray R (fun w' => ∃ m : QW w, w' = m.val) ps a w.drew) : (Code.region id l.toArray true).wp P R a w := by
  simp only [Bool.and_eq_true, decide_eq_true_eq] at hB
  refine wp_region_held (S := fun w' => ∃ m : QW w, w' = m.val) hm ?_
  have := any_plan hB.1.1 hQ ps (Array.replicate l.length false) a w.drew ⟨⟨w.drew, (Q.refl w).drew⟩, rfl⟩ hB.1.2 h
  rw [hB.2] at this
  exact this
theorem wpIn_plan {P : Program} {id : Nat} {R : Exit → Act → World → Prop} {a : Act} {w : World} {l : List Oper} (ps : List (List Nat × List Nat)) (hm : P.follows .mixedOrders = true) (hLO : ¬ LetsOut R) (hND : noDefer l.toArray = true) {r n0 : Nat}
    (hB : (Region.noSelect l.toArray && planB l.toArray ps (Array.replicate l.length false) && decide (planN ps = l.length)) = true)
    (hQ : ∀ c a d v w, R (.panic c) (Act.put a d v) w → R (.panic c) a w)
    (h : wpPlan P l.toArray R (fun w' => ∃ m : QW w, w' = m.val) ps a w.drew) : (Code.region id l.toArray true).wpIn (Fence.wide.inRound r) n0 P R a w := by
  simp only [Bool.and_eq_true, decide_eq_true_eq] at hB
  refine wpIn_region_round hm hLO hND (wpAny_of_held (S := fun w' => ∃ m : QW w, w' = m.val) _ _ _ _ ?_)
  have := any_plan hB.1.1 hQ ps (Array.replicate l.length false) a w.drew ⟨⟨w.drew, (Q.refl w).drew⟩, rfl⟩ hB.1.2 h
  rw [hB.2] at this
  exact this
end Go.Proofs.YtlhhiiemojhjdaaDoor
/- A region that draws its order: some pure operations first, then reads (and what lays memory) in stages, and at the end a forced chain for which all the rest but the pure ones must wait: of that chain nothing is asked. -/
set_option linter.unusedVariables false
namespace Go.Proofs.YtlhhiiemojhjdaaDoor
open Go Go.RowKit
section
variable {P : Program} {ops : Array Oper} {R : Exit → Act → World → Prop} {S : World → Prop}
/-- Whatever order is picked from here on, and S holds behind every operation ahead of those of zs. -/
def wpAnyZ (P : Program) (ops : Array Oper) (R : Exit → Act → World → Prop) (S : World → Prop) (zs : List Nat) : Nat → Array Bool → Act → World → Prop
  | 0, ls, a, w => Region.ready .any ops ls = [] ∧ R .normal a w
  | f + 1, ls, a, w => (Region.ready .any ops ls = [] → R .normal a w) ∧ ∀ i ∈ Region.ready .any ops ls, wpOp P ops R i (fun a' w' => if i ∈ zs then wpAny P .any ops R f (ls.setIfInBounds i true) a' w' else S w' ∧ wpAnyZ P ops R S zs f (ls.setIfInBounds i true) a' w') a w
theorem wpAny_of_Z {zs : List Nat} : ∀ (f : Nat) (ls : Array Bool) (a : Act) (w : World), wpAnyZ P ops R S zs f ls a w → wpAny P .any ops R f ls a w
  | 0, _, _, _, h => h
  | f + 1, ls, _, _, h => ⟨h.1, fun i hi => wpOp_mono (fun a' w' h' => by
      by_cases e : i ∈ zs
      · rw [if_pos e] at h'; exact h'
      · rw [if_neg e] at h'; exact wpAny_of_Z f _ a' w' h'.2) (h.2 i hi)⟩
structure ClosedL (ops : Array Oper) (ls : Array Bool) : Prop where
  size : ls.size = ops.size
  closed : ∀ j oj, ops[j]? = some oj → ls.getD j false = true → ∀ e ∈ oj.after, Region.binds .any e = true → ls.getD e.on false = true
theorem ClosedL.set {ls : Array Bool} {i : Nat} (inv : ClosedL ops ls) (hi : i ∈ Region.ready .any ops ls) : ClosedL ops (ls.setIfInBounds i true) := by
  obtain ⟨_, oi, hoi, hall⟩ := mem_ready.1 hi
  refine ⟨by simp [inv.size], fun j oj hj hl e he hb => ?_⟩
  by_cases hij : i = j
  · subst hij
    have : oj = oi := Option.some.inj (hj.symm.trans hoi)
    subst this
    exact getD_set_true (hall e he hb)
  · rw [getD_set_ne false hij] at hl
    exact getD_set_true (inv.closed j oj hj hl e he hb)
theorem sink_all {qs : List Nat} {z : Nat} {ls : Array Bool} {N : Nat} (hN : ∀ i ∈ z :: qs, i < N) (hs : sinkL ops qs z = true) (hsz : ∀ i ∈ z :: qs, i < ops.size) (inv : ClosedL ops ls) (hz : z ∈ Region.ready .any ops ls) :
    ∀ (d i : Nat), N - i = d → i ∈ qs → ls.getD i true = false → False := by
  intro d
  induction d using Nat.strongRecOn with
  | _ d ih =>
    intro i hd hi hun
    have h1 := List.all_eq_true.1 hs i hi
    obtain ⟨j, hj, hj2⟩ := List.any_eq_true.1 h1
    simp only [Bool.and_eq_true, decide_eq_true_eq] at hj2
    obtain ⟨oj, hoj, e, he, hb, hon⟩ := Region.waitsFor_spec hj2.2
    have hjN := hN j hj
    rcases List.mem_cons.1 hj with hjt | hjt
    · subst hjt
      obtain ⟨_, oz, hoz, hall⟩ := mem_ready.1 hz
      have : oj = oz := Option.some.inj (hoj.symm.trans hoz)
      subst this
      have h2 := hall e he hb
      rw [hon, getD_both hun] at h2
      cases h2
    · cases hl : ls.getD j false with
      | true =>
        have h2 := inv.closed j oj hoj hl e he hb
        rw [hon, getD_both hun] at h2
        cases h2
      | false =>
        have hjs : j < ls.size := by rw [inv.size]; exact hsz j hj
        exact ih (N - j) (by omega) j rfl hjt (getD_in hjs hl)
theorem yields_all {o : Oper} {v : Value} {a : Act} (h : YieldsIf P ops (fun _ => True) o v a) : Yields P ops o v a := h.imp (fun ⟨hw, hv⟩ => ⟨hw, fun w => hv w trivial⟩) id
/-- T: what the operation asks of the world to be read. -/
theorem wpAnyZ_first {zs : List Nat} {i : Nat} {oi : Oper} {v : Value} {T : World → Prop} (hi : ops[i]? = some oi) (hsel : ∀ (j : Nat) (o : Oper) cs b, ops[j]? = some o → o.op ≠ .select cs b)
    (hQ : ∀ c a w, R (.panic c) (a.put oi.dst v) w → R (.panic c) a w) (hiz : i ∉ zs) (hT : ∀ w, S w → T w) (hz : (∀ ls, ClosedL ops ls → ls.getD i true = false → ∀ z ∈ zs, z ∉ Region.ready .any ops ls) ∨ ∀ w, T w) :
    ∀ (fuel : Nat) (ls : Array Bool) (a : Act) (w : World), ClosedL ops ls →
      (∀ j oj, ops[j]? = some oj → j ≠ i → ls.getD j true = false → (∀ e ∈ oj.after, Region.binds .any e = true → e.on ≠ i) → oi.apart ops oj = true) →
      i ∈ Region.ready .any ops ls → YieldsIf P ops T oi v a → S w →
      wpAnyZ P ops R S zs fuel (ls.setIfInBounds i true) (a.put oi.dst v) w → wpAnyZ P ops R S zs (fuel + 1) ls a w := by
  intro fuel
  induction fuel with
  | zero =>
    intro ls a w inv _ hr hy hS H
    refine ⟨fun h => (by rw [h] at hr; cases hr), fun j hj => ?_⟩
    by_cases hji : j = i
    · subst hji; exact hy.wpOp hi (hT w hS) (by rw [if_neg hiz]; exact ⟨hS, H⟩)
    · have := ready_mono hj hji
      rw [H.1] at this
      cases this
  | succ fuel ih =>
    intro ls a w inv hfree hr hy hS H
    have hun := (mem_ready.1 hr).1
    refine ⟨fun h => (by rw [h] at hr; cases hr), fun j hj => ?_⟩
    by_cases hji : j = i
    · subst hji; exact hy.wpOp hi (hT w hS) (by rw [if_neg hiz]; exact ⟨hS, H⟩)
    · have h1 := H.2 j (ready_mono hj hji)
      obtain ⟨hjun, oj, hoj, hall⟩ := mem_ready.1 hj
      have hnot : ∀ e ∈ oj.after, Region.binds .any e = true → e.on ≠ i := fun e he hb heq => by
        have h2 := hall e he hb
        rw [heq, getD_both hun] at h2
        cases h2
      have h2 := wpOp_putIf hoj (hfree j oj hoj hji hjun hnot) (fun cs b => hsel i oi cs b hi) (fun cs b => hsel j oj cs b hoj) hQ hy h1
      have hfree' : ∀ k ok, ops[k]? = some ok → k ≠ i → (ls.setIfInBounds j true).getD k true = false →
          (∀ e ∈ ok.after, Region.binds .any e = true → e.on ≠ i) → oi.apart ops ok = true := fun k ok hk hki hku hno => by
        refine hfree k ok hk hki ?_ hno
        by_cases hjk : j = k
        · subst hjk; exact hjun
        · rw [getD_set_ne true hjk] at hku; exact hku
      by_cases hjz : j ∈ zs
      · have hTT : ∀ w, T w := hz.elim (fun h => absurd hj (h ls inv hun j hjz)) id
        refine wpOp_mono (fun a' w' h3 => ?_) h2
        rw [if_pos hjz] at h3 ⊢
        refine wpAny_first hi hsel hQ _ _ _ _ hfree' (ready_mono hr (Ne.symm hji)) (yields_all ?_) ?_
        · exact h3.1.imp (fun ⟨hw, hv⟩ => ⟨hw, fun w _ => hv w (hTT w)⟩) id
        · rw [Array.setIfInBounds_comm _ _ hji]; exact h3.2
      · refine wpOp_mono (fun a' w' h3 => ?_) h2
        rw [if_neg hjz] at h3 ⊢
        refine ⟨h3.2.1, ih (ls.setIfInBounds j true) a' w' (inv.set hj) hfree' (ready_mono hr (Ne.symm hji)) h3.1 h3.2.1 ?_⟩
        rw [Array.setIfInBounds_comm _ _ hji]
        exact h3.2.2
/-- Pure ones (T: whatever world), or reads. -/
theorem headZ {zs : List Nat} {T : World → Prop} (hsel : Region.noSelect ops = true) (hQ : ∀ c a d v w, R (.panic c) (Act.put a d v) w → R (.panic c) a w) (hT : ∀ w, S w → T w) (hd : List Nat) (hz : (∀ i ∈ hd, ∀ ls, ClosedL ops ls → ls.getD i true = false → ∀ z ∈ zs, z ∉ Region.ready .any ops ls) ∨ ∀ w, T w) (f : Nat) (w : World) (hS : S w) : ∀ (ls : Array Bool) (a : Act), ClosedL ops ls → (∀ i ∈ hd, i ∉ zs) → pureB .any ops hd ls = true →
    wpQuiet P ops T (fun a' => ClosedL ops (markB hd ls) → wpAnyZ P ops R S zs f (markB hd ls) a' w) (hd.map (ops.getD · default)) a → wpAnyZ P ops R S zs (hd.length + f) ls a w := by
  induction hd with
  | nil => intro ls a inv _ hB h; rw [List.length_nil, Nat.zero_add]; exact h inv
  | cons k r ih =>
    intro ls a inv hzn hB h
    simp only [pureB, Bool.and_eq_true] at hB
    have hzk : k ∉ zs := hzn k (by simp)
    have hzr : ∀ i ∈ r, i ∉ zs := fun i e => hzn i (List.mem_cons_of_mem _ e)
    have ih := ih (hz.imp (fun h i hi => h i (List.mem_cons_of_mem _ hi)) id)
    have hkz := hz.imp (fun h => h k (by simp)) id
    have hkr : k ∈ Region.ready .any ops ls := by simpa using hB.1.2
    cases ho : ops[k]? with
    | none => rw [ho] at hB; simp at hB
    | some o =>
      rw [ho] at hB
      have hk : ops.getD k default = o := by simp [Array.getD_eq_getD_getElem?, ho]
      rw [List.map_cons, hk] at h
      have h2 : if Region.wanted o (yielded ops a.tmps) then o.quiet P a T (wpQuiet P ops T (fun a' => ClosedL ops (markB (k :: r) ls) → wpAnyZ P ops R S zs f (markB (k :: r) ls) a' w) (r.map (ops.getD · default)))
        else wpQuiet P ops T (fun a' => ClosedL ops (markB (k :: r) ls) → wpAnyZ P ops R S zs f (markB (k :: r) ls) a' w) (r.map (ops.getD · default)) (a.put o.dst undef) := h
      rw [List.length_cons, Nat.add_right_comm]
      split at h2
      · next hw =>
        obtain ⟨v, hv, hn⟩ := h2
        refine wpAnyZ_first ho (Region.noSelect_spec hsel) (fun c a w => hQ c a _ _ w) hzk hT hkz _ ls a w inv (Region.free_spec ho hB.1.1.2) hkr (.inl ⟨hw, fun w' hw' => ?_⟩) hS (ih _ _ (inv.set hkr) hzr hB.2 hn)
        have h3 := hv w' hw'
        unfold Oper.quietAt at h3
        cases hr : (execOp a.eval o).run P w' with
        | halt x u => rw [hr] at h3; simp only [Oper.quietUpon] at h3
        | ok n u =>
          obtain ⟨x, rfl⟩ := pure_run hB.1.1.1 hr
          rw [hr] at h3
          simp only [Oper.quietUpon] at h3
          rw [h3.1, h3.2]
      · next hw =>
        exact wpAnyZ_first ho (Region.noSelect_spec hsel) (fun c a w => hQ c a _ _ w) hzk hT hkz _ ls a w inv (Region.free_spec ho hB.1.1.2) hkr (.inr ⟨by simpa using hw, rfl⟩) hS (ih _ _ (inv.set hkr) hzr hB.2 h2)
theorem chainZ {zs : List Nat} (f : Nat) (tl : List Nat) : ∀ (ls : Array Bool) (a : Act) (w : World) (E : Act → World → Prop), S w → ClosedL ops ls → (∀ i ∈ tl, i ∉ zs) → forcedB ops tl ls = true → (∀ a w, S w → ClosedL ops (markB tl ls) → E a w → wpAnyZ P ops R S zs f (markB tl ls) a w) →
    wpListK P ops R S E (tl.map (ops.getD · default)) a w → wpAnyZ P ops R S zs (tl.length + f) ls a w := by
  induction tl with
  | nil => intro ls a w E hS inv _ hB hE h; rw [List.length_nil, Nat.zero_add]; exact hE a w hS inv h
  | cons k r ih =>
    intro ls a w E hS inv hzn hB hE h
    simp only [forcedB, Bool.and_eq_true, decide_eq_true_eq] at hB
    rw [List.length_cons, Nat.add_right_comm]
    refine ⟨fun h0 => (by rw [hB.1.1] at h0; cases h0), fun i hi => ?_⟩
    have hi' := hi
    rw [hB.1.1] at hi
    have e : i = k := by simpa using hi
    subst e
    obtain ⟨o, ho⟩ := Option.isSome_iff_exists.1 hB.1.2
    have hk : ops.getD i default = o := by simp [Array.getD_eq_getD_getElem?, ho]
    rw [List.map_cons, hk] at h
    exact wpOp_of_one ho (h _ (fun a' w' hs h' => by rw [if_neg (hzn i (by simp))]; exact ⟨hs, ih _ a' w' E hs (inv.set hi') (fun j hj => hzn j (List.mem_cons_of_mem _ hj)) hB.2 hE h'⟩))
def wpFin (P : Program) (ops : Array Oper) (R : Exit → Act → World → Prop) (S : World → Prop) (zs : List Nat) : List (List Nat × List Nat) → Act → World → Prop
  | [], a, w => wpList P ops R (zs.map (ops.getD · default)) a w
  | (hd, tl) :: ps, a, w => wpQuiet P ops S (fun a' => wpListK P ops R S (wpFin P ops R S zs ps) (tl.map (ops.getD · default)) a' w) (hd.map (ops.getD · default)) a
def finB (ops : Array Oper) (zs : List Nat) : List (List Nat × List Nat) → Array Bool → Bool
  | [], ls => tailB .any ops zs ls && (Region.ready .any ops ls).all (zs.contains ·)
  | (hd, tl) :: ps, ls => (hd ++ tl).all (fun i => !zs.contains i) && pureB .any ops hd ls && forcedB ops tl (markB hd ls) && finB ops zs ps (markB tl (markB hd ls))
theorem not_mem_of {zs l : List Nat} (h : l.all (fun i => !zs.contains i) = true) : ∀ i ∈ l, i ∉ zs := fun i hi he => by
  have := List.all_eq_true.1 h i hi
  rw [List.contains_iff_mem.2 he] at this
  cases this
theorem any_fin {zs : List Nat} (hsel : Region.noSelect ops = true) (hQ : ∀ c a d v w, R (.panic c) (Act.put a d v) w → R (.panic c) a w)
    (ps : List (List Nat × List Nat)) (hz : ∀ p ∈ ps, ∀ i ∈ p.1, ∀ ls, ClosedL ops ls → ls.getD i true = false → ∀ z ∈ zs, z ∉ Region.ready .any ops ls) : ∀ (ls : Array Bool) (a : Act) (w : World), S w → ClosedL ops ls → finB ops zs ps ls = true →
    wpFin P ops R S zs ps a w → wpAnyZ P ops R S zs (planN ps + zs.length) ls a w := by
  induction ps with
  | nil =>
    intro ls a w hS inv hB h
    simp only [finB, Bool.and_eq_true] at hB
    have h1 := wpAny_of_held _ _ _ _ (any_tail zs ls a w hB.1 h)
    have e : planN [] + zs.length = zs.length := by simp [planN]
    rw [e]
    generalize zs.length = f at h1
    cases f with
    | zero => exact h1
    | succ f =>
      refine ⟨h1.1, fun i hi => wpOp_mono (fun a' w' h' => ?_) (h1.2 i hi)⟩
      rw [if_pos (by simpa using List.all_eq_true.1 hB.2 i hi)]
      exact h'
  | cons p ps ih =>
    obtain ⟨hd, tl⟩ := p
    intro ls a w hS inv hB h
    simp only [finB, Bool.and_eq_true] at hB
    have hn := not_mem_of hB.1.1.1
    have e : planN ((hd, tl) :: ps) + zs.length = hd.length + (tl.length + (planN ps + zs.length)) := by simp [planN]; omega
    rw [e]
    refine headZ hsel hQ (T := S) (fun _ h => h) hd (.inl (hz (hd, tl) (by simp))) _ w hS ls a inv (fun i hi => hn i (by simp [hi])) hB.1.1.2 ?_
    exact wpQuiet_mono (fun a' h' inv' => chainZ _ tl _ a' w _ hS inv' (fun i hi => hn i (by simp [hi])) hB.1.2 (fun a w hs inv2 he => ih (fun p hp => hz p (List.mem_cons_of_mem _ hp)) _ a w hs inv2 hB.2 he) h') _ _ h
end
/-- p0: pure operations; then stages (reads, and one by one what else there is); zs: the end, for whose members all that is read must wait (it is not so for those of p0). -/
theorem wp_fin {P : Program} {id : Nat} {R : Exit → Act → World → Prop} {a : Act} {w : World} {l : List Oper} (p0 : List Nat) (ps : List (List Nat × List Nat)) (zs : List Nat) (hm : P.follows .mixedOrders = true)
    (hB : (Region.noSelect l.toArray && pureB .any l.toArray p0 (Array.replicate l.length false) && p0.all (fun i => !zs.contains i) && finB l.toArray zs ps (markB p0 (Array.replicate l.length false)) && decide (p0.length + (planN ps + zs.length) = l.length)
      && ps.all (fun p => p.1.all fun i => decide (i < l.length)) && zs.all (fun z => decide (z < l.length) && sinkL l.toArray ((List.range l.length).filter fun i => !p0.contains i && decide (i < z)) z && ps.all fun p => p.1.all fun i => decide (i < z) && !p0.contains i)) = true)
    (hQ : ∀ c a d v w, R (.panic c) (Act.put a d v) w → R (.panic c) a w)
    (h : wpQuiet P l.toArray (fun _ => True) (fun a' => wpFin P l.toArray R (fun w' => ∃ m : QW w, w' = m.val) zs ps a' w.drew) (p0.map (l.toArray.getD · default)) a) : (Code.region id l.toArray true).wp P R a w := by
  simp only [Bool.and_eq_true, decide_eq_true_eq] at hB
  obtain ⟨⟨⟨⟨⟨⟨h1, h2⟩, h3⟩, h4⟩, h5⟩, h6⟩, h7⟩ := hB
  have hz : ∀ p ∈ ps, ∀ i ∈ p.1, ∀ ls, ClosedL l.toArray ls → ls.getD i true = false → ∀ z ∈ zs, z ∉ Region.ready .any l.toArray ls := fun p hp i hi ls inv hun z hzz hr => by
    have h8 := List.all_eq_true.1 h7 z hzz
    simp only [Bool.and_eq_true, decide_eq_true_eq] at h8
    have h9 := List.all_eq_true.1 (List.all_eq_true.1 h8.2 p hp) i hi
    simp only [Bool.and_eq_true, decide_eq_true_eq] at h9
    have hb : ∀ j ∈ z :: ((List.range l.length).filter fun i => !p0.contains i && decide (i < z)), j < l.length := fun j hj => by
      rcases List.mem_cons.1 hj with e | e
      · omega
      · exact List.mem_range.1 (List.mem_filter.1 e).1
    refine sink_all (N := l.length) hb h8.1.2 (fun j hj => by have := hb j hj; simpa using this) inv hr _ i rfl (List.mem_filter.2 ⟨List.mem_range.2 (by omega), ?_⟩) hun
    simp only [Bool.and_eq_true, decide_eq_true_eq]
    exact ⟨h9.2, h9.1⟩
  have inv0 : ClosedL l.toArray (Array.replicate l.length false) := ⟨by simp, fun j oj hj hl => by
      rw [Array.getD_eq_getD_getElem?] at hl
      by_cases hjl : j < l.length
      · simp [hjl] at hl
      · simp [hjl] at hl⟩
  have hS : (fun w' => ∃ m : QW w, w' = m.val) w.drew := ⟨⟨w.drew, (Q.refl w).drew⟩, rfl⟩
  refine wp_region_any hm (wpAny_of_Z (S := fun w' => ∃ m : QW w, w' = m.val) (zs := zs) _ _ _ _ ?_)
  have := headZ (zs := zs) (S := fun w' => ∃ m : QW w, w' = m.val) (T := fun _ => True) h1 hQ (fun _ _ => trivial) p0 (.inr fun _ => trivial) (planN ps + zs.length) w.drew hS _ a inv0 (not_mem_of h3) h2
    (wpQuiet_mono (fun a' h' inv' => any_fin h1 hQ ps hz _ a' w.drew hS inv' h4 h') _ _ h)
  rw [h5] at this
  exact this
end Go.Proofs.YtlhhiiemojhjdaaDoor
