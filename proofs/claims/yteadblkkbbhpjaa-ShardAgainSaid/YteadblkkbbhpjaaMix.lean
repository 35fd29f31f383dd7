/- A region that draws its order: operations that read no memory first, then calls that may lay new memory, then a rest in a forced order. -/
import Derived.Test.YteadblkkbbhpjaaPure
import Derived.Test.YteadblkkbbhpjaaQt
set_option linter.unusedVariables false
namespace Go.Proofs.Yteadblkkbbhpjaa
open Go Go.RowKit
section
variable {P : Program} {ops : Array Oper} {R : Exit → Act → World → Prop} {C : World → Prop}
theorem held_of_any {md : Region.Mode} (f : Nat) : ∀ (ls : Array Bool) (a : Act) (w : World), wpAny P md ops R f ls a w → wpAnyH P md ops R (fun _ => True) f ls a w := by
  induction f with
  | zero => intro ls a w h; exact h
  | succ f ih => intro ls a w h; exact ⟨h.1, fun i hi => wpOp_mono (fun a' w' h' => ⟨trivial, ih _ a' w' h'⟩) (h.2 i hi)⟩
/-- Whatever order is picked among those of H. -/
def mixQ (P : Program) (ops : Array Oper) (C : World → Prop) (H : Nat → Prop) (L : Array Bool → Act → Prop) : Nat → Array Bool → Act → Prop
  | 0, ls, a => L ls a
  | f + 1, ls, a => Region.ready .any ops ls ≠ [] ∧ ∀ i ∈ Region.ready .any ops ls, H i ∧ qOp P ops C i (mixQ P ops C H L f (ls.setIfInBounds i true)) a
theorem any_of_mixQ {H : Nat → Prop} {g : Nat} {L : Array Bool → Act → Prop} (hL : ∀ ls a w, C w → L ls a → wpAny P .any ops R g ls a w) (f : Nat) :
    ∀ (ls : Array Bool) (a : Act) (w : World), C w → mixQ P ops C H L f ls a → wpAny P .any ops R (f + g) ls a w := by
  induction f with
  | zero => intro ls a w hw h; rw [Nat.zero_add]; exact hL _ _ _ hw h
  | succ f ih =>
    intro ls a w hw h
    rw [Nat.add_right_comm]
    exact ⟨fun h0 => (h.1 h0).elim, fun i hi => wpOp_of_qOp hw (fun a' w' hw' hk => ih _ a' w' hw' hk) (h.2 i hi).2⟩
/-- What has come up so far: those of ls1, and some of H, each behind those that it waits for. -/
structure MixInv (ops : Array Oper) (ls1 : Array Bool) (H : Nat → Prop) (ls : Array Bool) : Prop where
  size : ls.size = ops.size
  closed : ∀ j oj, ops[j]? = some oj → ls.getD j false = true → ∀ e ∈ oj.after, Region.binds .any e = true → ls.getD e.on false = true
  rest : ∀ t, ¬ H t → ls1.getD t true = false → ls.getD t true = false
  more : ∀ t, ls1.getD t true = true → ls.getD t true = true
theorem MixInv.set {ls1 : Array Bool} {H : Nat → Prop} {i : Nat} {ls : Array Bool} (inv : MixInv ops ls1 H ls) (hi : i ∈ Region.ready .any ops ls) (hin : H i) : MixInv ops ls1 H (ls.setIfInBounds i true) := by
  obtain ⟨_, oi, hoi, hall⟩ := mem_ready.1 hi
  refine ⟨by simp [inv.size], fun j oj hj hl e he hb => ?_, fun t ht ht' => ?_, fun t ht => ?_⟩
  · by_cases hij : i = j
    · subst hij
      have : oj = oi := Option.some.inj (hj.symm.trans hoi)
      subst this
      exact getD_set_true (hall e he hb)
    · rw [getD_set_ne false hij] at hl
      exact getD_set_true (inv.closed j oj hj hl e he hb)
  · have : i ≠ t := fun h => ht (h ▸ hin)
    rw [getD_set_ne true this]; exact inv.rest t ht ht'
  · by_cases hij : i = t
    · subst hij
      by_cases hs : i < ls.size
      · simp [hs]
      · simp [hs]
    · rw [getD_set_ne true hij]; exact inv.more t ht
/-- Each of qs is waited for by a later one of qs, or by the first of tl; each of tl by the next. -/
def sinkL (ops : Array Oper) (qs : List Nat) (t0 : Nat) : Bool := qs.all fun i => (t0 :: qs).any fun j => decide (i < j) && Region.waitsFor .any ops j i
def chainL (ops : Array Oper) : List Nat → Bool
  | a :: b :: r => Region.waitsFor .any ops b a && chainL ops (b :: r)
  | _ => true
theorem chainL_prev {tl : List Nat} (h : chainL ops tl = true) : ∀ t ∈ tl.tail, ∃ s ∈ tl, Region.waitsFor .any ops t s = true := by
  induction tl with
  | nil => intro t ht; cases ht
  | cons a r ih =>
    cases r with
    | nil => intro t ht; cases ht
    | cons b r =>
      simp only [chainL, Bool.and_eq_true] at h
      intro t ht
      rcases List.mem_cons.1 ht with e | e
      · subst e; exact ⟨a, by simp, h.1⟩
      · obtain ⟨s, hs, hs2⟩ := ih h.2 t e
        exact ⟨s, List.mem_cons_of_mem _ hs, hs2⟩
theorem mix_waits {ls1 ls : Array Bool} {qs : List Nat} {t0 : Nat} {tr : List Nat} {N : Nat} (hN : ∀ i ∈ t0 :: qs, i < N) (hs : sinkL ops qs t0 = true) (hc : chainL ops (t0 :: tr) = true) (hT : ∀ t ∈ t0 :: tr, t ∉ qs ∧ ls1.getD t true = false) (hsz : ∀ i ∈ t0 :: qs, i < ops.size)
    (inv : MixInv ops ls1 (· ∈ qs) ls) : ∀ (d i : Nat), N - i = d → i ∈ qs → ls.getD i true = false → ∀ t ∈ t0 :: tr, t ∉ Region.ready .any ops ls := by
  intro d
  induction d using Nat.strongRecOn with
  | _ d ih =>
    intro i hd hi hun t ht hr
    obtain ⟨_, ot, hot, hall⟩ := mem_ready.1 hr
    rcases List.mem_cons.1 ht with e | e
    · subst e
      have h1 := List.all_eq_true.1 hs i hi
      obtain ⟨j, hj, hj2⟩ := List.any_eq_true.1 h1
      simp only [Bool.and_eq_true, decide_eq_true_eq] at hj2
      obtain ⟨oj, hoj, e, he, hb, hon⟩ := Region.waitsFor_spec hj2.2
      rcases List.mem_cons.1 hj with hjt | hjt
      · subst hjt
        have : oj = ot := Option.some.inj (hoj.symm.trans hot)
        subst this
        have h2 := hall e he hb
        rw [hon, getD_both hun] at h2
        cases h2
      · have hjN := hN j (List.mem_cons_of_mem _ hjt)
        cases hl : ls.getD j false with
        | true =>
          have h2 := inv.closed j oj hoj hl e he hb
          rw [hon, getD_both hun] at h2
          cases h2
        | false =>
          have hjs : j < ls.size := by rw [inv.size]; exact hsz j (List.mem_cons_of_mem _ hjt)
          exact ih (N - j) (by omega) j rfl hjt (getD_in hjs hl) t ht hr
    · obtain ⟨s, hs1, hs2⟩ := chainL_prev hc t (by simpa using e)
      obtain ⟨o', ho', e', he, hb, hon⟩ := Region.waitsFor_spec hs2
      have : o' = ot := Option.some.inj (ho'.symm.trans hot)
      subst this
      have h2 := hall e' he hb
      have h3 := hT s hs1
      rw [hon, getD_both (inv.rest s h3.1 h3.2)] at h2
      cases h2
/-- One that may come up now may be taken first. -/
theorem mixQ_first {ls1 : Array Bool} {H : Nat → Prop} {i : Nat} {oi : Oper} {v : Value} {L : Array Bool → Act → Prop} (hi : ops[i]? = some oi) (hsel : ∀ (j : Nat) (o : Oper) cs b, ops[j]? = some o → o.op ≠ .select cs b)
    (hwait : ∀ ls, MixInv ops ls1 H ls → ∀ i, H i → ls.getD i true = false → ∀ t, t ∈ Region.ready .any ops ls → H t) (hin : H i) (hdone : ∀ ls a, L ls a → ∀ j ∈ Region.ready .any ops ls, ¬ H j) (f : Nat) :
    ∀ (ls : Array Bool) (a : Act), MixInv ops ls1 H ls →
      (∀ j oj, ops[j]? = some oj → j ≠ i → ls.getD j true = false → (∀ e ∈ oj.after, Region.binds .any e = true → e.on ≠ i) → oi.apart ops oj = true) →
      i ∈ Region.ready .any ops ls → YieldsIn P ops C oi v a → mixQ P ops C H L f (ls.setIfInBounds i true) (a.put oi.dst v) → mixQ P ops C H L (f + 1) ls a := by
  induction f with
  | zero =>
    intro ls a inv _ hr hy H'
    have hun := (mem_ready.1 hr).1
    refine ⟨List.ne_nil_of_mem hr, fun j hj => ?_⟩
    have hjn : H j := hwait ls inv i hin hun j hj
    by_cases e : j = i
    · rw [e] at hjn ⊢; exact ⟨hjn, hy.qOp hi H'⟩
    · exact absurd hjn (hdone _ _ H' j (ready_mono hj e))
  | succ f ih =>
    intro ls a inv hfree hr hy H'
    have hun := (mem_ready.1 hr).1
    refine ⟨List.ne_nil_of_mem hr, fun j hj => ?_⟩
    have hjn : H j := hwait ls inv i hin hun j hj
    by_cases e : j = i
    · rw [e] at hjn ⊢; exact ⟨hjn, hy.qOp hi H'⟩
    · refine ⟨hjn, ?_⟩
      obtain ⟨hjun, oj, hoj, hall⟩ := mem_ready.1 hj
      have hno : ∀ x ∈ oj.after, Region.binds .any x = true → x.on ≠ i := by
        intro x hx hb he
        have := hall x hx hb
        rw [he, getD_both hun] at this
        cases this
      have h2 := qOp_put hoj (hfree j oj hoj e hjun hno) (fun cs b => hsel i oi cs b hi) (fun cs b => hsel j oj cs b hoj) hy (H'.2 j (ready_mono hj e)).2
      refine qOp_mono (fun a' h3 => ih _ a' (inv.set hj hjn) (fun k ok hk hki hku hkn => hfree k ok hk hki ?_ hkn) (ready_mono hr (Ne.symm e)) h3.1 (by rw [Array.setIfInBounds_comm _ _ e]; exact h3.2)) h2
      by_cases hjk : j = k
      · rw [← hjk]; exact hjun
      · rwa [getD_set_ne true hjk] at hku
def quietsB (ops : Array Oper) (tl : List Nat) : List Nat → Array Bool → Bool
  | [], ls => tailB .any ops tl ls
  | k :: r, ls => (ops[k]?).isSome && (Region.ready .any ops ls).contains k && Region.free .any ops ls k && quietsB ops tl r (ls.setIfInBounds k true)
theorem mixQ_lex {ls1 : Array Bool} {H : Nat → Prop} {K : Act → Prop} {tl : List Nat} (hsel : Region.noSelect ops = true) (hwait : ∀ ls, MixInv ops ls1 H ls → ∀ i, H i → ls.getD i true = false → ∀ t, t ∈ Region.ready .any ops ls → H t)
    (htl : ∀ t ∈ tl, ¬ H t) (l : List Nat) :
    ∀ (ls : Array Bool) (a : Act), (∀ k ∈ l, H k) → MixInv ops ls1 H ls → quietsB ops tl l ls = true →
    wpQuiet P ops C K (l.map (ops.getD · default)) a → mixQ P ops C H (fun ls' a' => tailB .any ops tl ls' = true ∧ K a') l.length ls a := by
  have hdone : ∀ ls' (a' : Act), (tailB .any ops tl ls' = true ∧ K a') → ∀ j ∈ Region.ready .any ops ls', ¬ H j := by
    intro ls' a' h j hj
    cases tl with
    | nil => simp only [tailB, List.isEmpty_iff] at h; rw [h.1] at hj; cases hj
    | cons t r =>
      simp only [tailB, Bool.and_eq_true, decide_eq_true_eq] at h
      rw [h.1.1.1] at hj
      have : j = t := by simpa using hj
      subst this
      exact htl _ (by simp)
  induction l with
  | nil => intro ls a _ _ hB h; exact ⟨by simpa [quietsB] using hB, h⟩
  | cons k r ih =>
    intro ls a hl inv hB h
    simp only [quietsB, Bool.and_eq_true] at hB
    obtain ⟨o, ho⟩ := Option.isSome_iff_exists.1 hB.1.1.1
    have hr : k ∈ Region.ready .any ops ls := by simpa using hB.1.1.2
    have hk : ops.getD k default = o := by simp [Array.getD_eq_getD_getElem?, ho]
    rw [List.map_cons, hk] at h
    have hq : qOp P ops C k (wpQuiet P ops C K (r.map (ops.getD · default))) a := by unfold qOp; simp only [ho]; exact h
    obtain ⟨v, hy, hK⟩ := yieldsIn_of_qOp ho hq
    refine mixQ_first ho (Region.noSelect_spec hsel) hwait (hl k (by simp)) hdone r.length ls a inv (Region.free_spec ho hB.1.2) hr hy ?_
    exact ih _ _ (fun k' hk' => hl k' (List.mem_cons_of_mem _ hk')) (inv.set hr (hl k (by simp))) hB.2 hK
/-- All that the order of a mixed region asks: decided by running it. -/
def mixB (ops : Array Oper) (hd qs : List Nat) (t0 : Nat) (tr : List Nat) : Bool :=
  let ls0 := Array.replicate ops.size false
  let ls1 := markB hd ls0
  Region.noSelect ops && pureB .any ops hd ls0 && quietsB ops (t0 :: tr) qs ls1 && sinkL ops qs t0 && chainL ops (t0 :: tr) &&
    (t0 :: tr).all (fun t => !qs.contains t && !(ls1.getD t true)) && (t0 :: qs).all (fun i => decide (i < ops.size)) && decide (hd.length + (qs.length + (t0 :: tr).length) = ops.size) &&
    (List.range ops.size).all (fun i => ls1.getD i true || qs.contains i || (t0 :: tr).contains i) && decide (ls1.size = ops.size) &&
    (List.range ops.size).all (fun j => match ops[j]? with | some oj => !(ls1.getD j false) || oj.after.all (fun e => !Region.binds .any e || ls1.getD e.on false) | none => true)
end
/-- 'hd' read no memory and are taken first; 'qs' are quiet in every world that w grows to (calls may lay new memory); t0 :: tr come behind, in that order. -/
theorem wp_region_mix {P : Program} {id : Nat} {R : Exit → Act → World → Prop} {a : Act} {w : World} {l : List Oper} (hd qs : List Nat) (t0 : Nat) (tr : List Nat) (hm : P.follows .mixedOrders = true)
    (hB : mixB l.toArray hd qs t0 tr = true) (hQ : ∀ c a d v w, R (.panic c) (Act.put a d v) w → R (.panic c) a w)
    (h : wpQuiet P l.toArray (fun _ => True) (fun a' => wpQuiet P l.toArray (fun w' => ∃ m : QW w, w' = m.val) (fun a'' => ∀ w', (∃ m : QW w, w' = m.val) → wpList P l.toArray R ((t0 :: tr).map (l.toArray.getD · default)) a'' w') (qs.map (l.toArray.getD · default)) a') (hd.map (l.toArray.getD · default)) a) :
    (Code.region id l.toArray true).wp P R a w := by
  simp only [mixB, Bool.and_eq_true, decide_eq_true_eq] at hB
  obtain ⟨⟨⟨⟨⟨⟨⟨⟨⟨⟨h1, h2⟩, h3⟩, h4⟩, h5⟩, h6⟩, h7⟩, h8⟩, h9⟩, h10⟩, h11⟩ := hB
  refine wp_region_held (S := fun _ => True) hm ?_
  rw [← h8]
  have e2 : Array.replicate (hd.length + (qs.length + (t0 :: tr).length)) false = Array.replicate l.toArray.size false := by rw [h8]
  rw [e2]
  generalize hls : markB hd (Array.replicate l.toArray.size false) = ls1 at *
  refine any_head h1 hQ _ _ hd _ a h2 (wpQuiet_mono (fun a' h' => ?_) _ _ h)
  rw [hls]
  refine held_of_any _ _ _ _ ?_
  have hT : ∀ t ∈ t0 :: tr, t ∉ qs ∧ ls1.getD t true = false := by
    intro t ht
    have := List.all_eq_true.1 h6 t ht
    simpa using this
  have hsz : ∀ i ∈ t0 :: qs, i < l.toArray.size := fun i hi => by have := List.all_eq_true.1 h7 i hi; simpa using this
  have hwait : ∀ ls, MixInv l.toArray ls1 (· ∈ qs) ls → ∀ i, i ∈ qs → ls.getD i true = false → ∀ t, t ∈ Region.ready .any l.toArray ls → t ∈ qs := by
    intro ls inv i hi hun t ht
    obtain ⟨htun, ot, hot, _⟩ := mem_ready.1 ht
    have htl : t < l.toArray.size := (Array.getElem?_eq_some_iff.1 hot).1
    have := List.all_eq_true.1 h9 t (List.mem_range.2 htl)
    simp only [Bool.or_eq_true, List.contains_iff_mem] at this
    rcases this with (g | g) | g
    · rw [inv.more t g] at htun; cases htun
    · exact g
    · exact absurd ht (mix_waits hsz h4 h5 hT hsz inv _ i rfl hi hun t g)
  have inv0 : MixInv l.toArray ls1 (· ∈ qs) ls1 := ⟨h10, fun j oj hj hl e he hb => by
    have hjl : j < l.toArray.size := (Array.getElem?_eq_some_iff.1 hj).1
    have := List.all_eq_true.1 h11 j (List.mem_range.2 hjl)
    rw [hj] at this
    simp only [hl, Bool.not_true, Bool.false_or] at this
    have := Array.all_eq_true'.1 this e he
    simpa [hb] using this, fun t _ h => h, fun t h => h⟩
  have H := mixQ_lex (C := fun w' => ∃ m : QW w, w' = m.val) h1 hwait (fun t ht => (hT t ht).1) qs ls1 a' (fun k hk => hk) inv0 h3 h'
  exact any_of_mixQ (fun ls a w hw hL => wpAny_of_held _ _ _ _ (any_tail _ _ _ _ hL.1 (hL.2 w hw))) _ _ _ _ ⟨⟨w.drew, (Q.refl w).drew⟩, rfl⟩ H
/-- A whole array or struct that stands in a block is read alike in every world of the class. -/
theorem wpQuiet_load_row {P : Program} {ops : Array Oper} {C : World → Prop} {K : Act → Prop} {rest : List Oper} {o : Oper} {a : Act} (hgd : o.guard = none) (ty : TypeId) (x : Operand) (ho : o.op = .load ty x)
    (g : Nat) (hx : a.eval x = .pointer (some ⟨g, 0, none⟩)) (t : TypeId) (cs : Array Value) (fr : Nat × Nat) (d : TypeDesc) (hg : ∀ w, C w → w.heap[g]? = some (.cells cs t fr))
    (hu : P.underlying ty = some d) (hd : (match d with | .struct _ | .array _ _ => true | _ => false) = true) (hi : (P.info? ty).map (·.size) = some cs.size)
    (h : wpQuiet P ops C K rest (a.put o.dst (.agg cs))) : wpQuiet P ops C K (o :: rest) a := by
  have hw : Region.wanted o (yielded ops a.tmps) = true := by simp [Region.wanted, hgd]
  unfold wpQuiet
  rw [if_pos hw]
  refine ⟨_, fun w hC => ?_, h⟩
  unfold Oper.quietAt execOp
  simp only [ho, hx, Instr.loadAt, Instr.sureAddr, Sem.run_bind, Sem.run_pure, Result.andThen_ok, run_loadVar_row w g t ty cs fr d (hg w hC) hu hd hi]
  exact ⟨rfl, rfl⟩
/-- A conversion that answers alike in every world of the class. -/
theorem wpQuiet_conv {P : Program} {ops : Array Oper} {C : World → Prop} {K : Act → Prop} {rest : List Oper} {o : Oper} {a : Act} (hgd : o.guard = none) (s d : TypeId) (x : Operand) (ho : o.op = .convert s d x) (v u : Value)
    (hx : a.eval x = v) (hr : ∀ w, C w → (convert s d v).run P w = .ok u w) (h : wpQuiet P ops C K rest (a.put o.dst u)) : wpQuiet P ops C K (o :: rest) a := by
  have hw : Region.wanted o (yielded ops a.tmps) = true := by simp [Region.wanted, hgd]
  unfold wpQuiet
  rw [if_pos hw]
  refine ⟨_, fun w hC => ?_, h⟩
  unfold Oper.quietAt execOp
  simp only [ho, hx, Sem.run_bind, Sem.run_pure, hr w hC, Result.andThen_ok]
  exact ⟨rfl, rfl⟩
end Go.Proofs.Yteadblkkbbhpjaa
