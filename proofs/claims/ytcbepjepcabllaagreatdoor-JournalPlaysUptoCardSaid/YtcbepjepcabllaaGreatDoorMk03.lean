/- Texts of this proof, laid into one: Hld, Fin, JdA, JdB. -/
import Derived.Test.YtcbepjepcabllaaGreatDoorMk02
import Derived.Laws.CopyOwn
import Derived.Maps.AppendAt
/- A region that draws its order, in a plain walk or in a round: loads of cells that stay may be taken first, beside operations that lay memory. -/
set_option linter.unusedVariables false
namespace Go.Proofs.YtcbepjepcabllaaGreatDoor
open Go Go.RowKit
section
variable {P : Program} {ops : Array Oper} {R : Exit → Act → World → Prop} {S : World → Prop}
/-- One behind the other; behind each S is shown anew. -/
def wpListS (P : Program) (ops : Array Oper) (R : Exit → Act → World → Prop) (S : World → Prop) : List Oper → Act → World → Prop
  | [], a, w => R .normal a w
  | o :: r, a, w => ∀ K : Act → World → Prop, (∀ a' w', S w' → wpListS P ops R S r a' w' → K a' w') → wpList P ops (Exit.then K R) [o] a w
theorem upon_then {o : Oper} {a : Act} {K : Act → World → Prop} (r : Result Next) (h : o.upon P a (wpList P ops (Exit.then K R) []) (Exit.then K R) r) : o.upon P a K R r := by
  cases r with
  | ok x w' =>
    cases x with
    | value v => exact h
    | skip => exact h
    | defer d => exact h
    | enter f args =>
      refine Calls.mono h fun e w'' he => ?_
      cases e with
      | returned u => exact he
      | panicked c => exact he
      | outgrown => exact he
    | row r args => exact Rows.mono h fun u w'' he => he
    | _ => first | exact h.elim | exact h
  | halt x w' =>
    cases x <;> exact h
theorem wpOp_of_one {i : Nat} {o : Oper} {a : Act} {w : World} {K : Act → World → Prop} (ho : ops[i]? = some o) (h : wpList P ops (Exit.then K R) [o] a w) : wpOp P ops R i K a w := by
  unfold wpOp
  simp only [ho]
  unfold wpList at h
  split at h
  · next hw =>
    rw [if_pos hw]
    rcases h with h | ⟨h1, h2⟩
    · exact .inl (upon_then _ h)
    · exact .inr ⟨h1, h2⟩
  · next hw =>
    rw [if_neg hw]
    exact h
theorem any_tailS (tl : List Nat) : ∀ (ls : Array Bool) (a : Act) (w : World), tailB .any ops tl ls = true → wpListS P ops R S (tl.map (ops.getD · default)) a w → wpAnyH P .any ops R S tl.length ls a w := by
  induction tl with
  | nil => intro ls a w hB h; exact ⟨by simpa [tailB] using hB, h⟩
  | cons k r ih =>
    intro ls a w hB h
    simp only [tailB, Bool.and_eq_true, decide_eq_true_eq] at hB
    refine wpAnyH_all hB.1.1 (by simp) fun i hi => ?_
    have e : i = k := by simpa using hi
    subst e
    obtain ⟨o, ho⟩ := Option.isSome_iff_exists.1 hB.1.2
    have hk : ops.getD i default = o := by simp [Array.getD_eq_getD_getElem?, ho]
    rw [List.map_cons, hk] at h
    exact wpOp_of_one ho (h _ (fun a' w' hs h' => ⟨hs, ih _ a' w' hB.2 h'⟩))
theorem any_headS (hsel : Region.noSelect ops = true) (hQ : ∀ c a d v w, R (.panic c) (Act.put a d v) w → R (.panic c) a w) (f : Nat) (w : World) (hS : S w) (hd : List Nat) : ∀ (ls : Array Bool) (a : Act), pureB .any ops hd ls = true →
    wpQuiet P ops S (fun a' => wpAnyH P .any ops R S f (markB hd ls) a' w) (hd.map (ops.getD · default)) a → wpAnyH P .any ops R S (hd.length + f) ls a w := by
  induction hd with
  | nil => intro ls a hB h; rw [List.length_nil, Nat.zero_add]; exact h
  | cons k r ih =>
    intro ls a hB h
    simp only [pureB, Bool.and_eq_true] at hB
    cases ho : ops[k]? with
    | none => rw [ho] at hB; simp at hB
    | some o =>
      rw [ho] at hB
      have hk : ops.getD k default = o := by simp [Array.getD_eq_getD_getElem?, ho]
      rw [List.map_cons, hk] at h
      have h2 : if Region.wanted o (yielded ops a.tmps) then o.quiet P a S (wpQuiet P ops S (fun a' => wpAnyH P .any ops R S f (markB (k :: r) ls) a' w) (r.map (ops.getD · default)))
        else wpQuiet P ops S (fun a' => wpAnyH P .any ops R S f (markB (k :: r) ls) a' w) (r.map (ops.getD · default)) (a.put o.dst undef) := h
      rw [List.length_cons, Nat.add_right_comm]
      split at h2
      · next hw =>
        obtain ⟨v, hv, hn⟩ := h2
        refine wpAnyH_take ho hsel hB.1.1.2 hB.1.2 (fun c a w => hQ c a _ _ w) (.inl ⟨hw, fun w' hw' => ?_⟩) hS (ih _ _ hB.2 hn)
        have h3 := hv w' hw'
        unfold Oper.quietAt at h3
        cases hr : (execOp a.eval o).run P w' with
        | halt x u => rw [hr] at h3; simp only [Oper.quietUpon] at h3
        | ok n u =>
          obtain ⟨x, rfl⟩ := pure_run hB.1.1.1 hr
          rw [hr] at h3
          simp only [Oper.quietUpon] at h3
          rw [h3.1, h3.2]
      · next hw =>
        exact wpAnyH_take ho hsel hB.1.1.2 hB.1.2 (fun c a w => hQ c a _ _ w) (.inr ⟨by simpa using hw, rfl⟩) hS (ih _ _ hB.2 h2)
end
/-- Those of 'hd' are read first, those of 'tl' come behind them one by one: whatever order is drawn. -/
theorem wpAny_heldQ {P : Program} {R : Exit → Act → World → Prop} {a : Act} {w : World} {l : List Oper} (hd tl : List Nat)
    (hB : (Region.noSelect l.toArray && pureB .any l.toArray hd (Array.replicate l.length false) && tailB .any l.toArray tl (markB hd (Array.replicate l.length false)) && decide (hd.length + tl.length = l.length)) = true)
    (hQ : ∀ c a d v w, R (.panic c) (Act.put a d v) w → R (.panic c) a w)
    (h : wpQuiet P l.toArray (fun w' => ∃ m : QW w, w' = m.val) (fun a' => wpListS P l.toArray R (fun w' => ∃ m : QW w, w' = m.val) (tl.map (l.toArray.getD · default)) a' w.drew) (hd.map (l.toArray.getD · default)) a) :
    wpAnyH P .any l.toArray R (fun w' => ∃ m : QW w, w' = m.val) l.toArray.size (Array.replicate l.toArray.size false) a w.drew := by
  simp only [Bool.and_eq_true, decide_eq_true_eq] at hB
  obtain ⟨⟨⟨h1, h2⟩, h3⟩, h4⟩ := hB
  have e : l.toArray.size = hd.length + tl.length := by simp [h4]
  rw [e]
  have e2 : Array.replicate (hd.length + tl.length) false = Array.replicate l.length false := by rw [h4]
  rw [e2]
  refine any_headS h1 hQ tl.length _ ⟨⟨w.drew, (Q.refl w).drew⟩, rfl⟩ hd _ a h2 ?_
  exact wpQuiet_mono (fun a' h' => any_tailS tl _ a' _ h3 h') _ _ h
theorem wp_heldQ {P : Program} {id : Nat} {R : Exit → Act → World → Prop} {a : Act} {w : World} {l : List Oper} (hd tl : List Nat) (hm : P.follows .mixedOrders = true)
    (hB : (Region.noSelect l.toArray && pureB .any l.toArray hd (Array.replicate l.length false) && tailB .any l.toArray tl (markB hd (Array.replicate l.length false)) && decide (hd.length + tl.length = l.length)) = true)
    (hQ : ∀ c a d v w, R (.panic c) (Act.put a d v) w → R (.panic c) a w)
    (h : wpQuiet P l.toArray (fun w' => ∃ m : QW w, w' = m.val) (fun a' => wpListS P l.toArray R (fun w' => ∃ m : QW w, w' = m.val) (tl.map (l.toArray.getD · default)) a' w.drew) (hd.map (l.toArray.getD · default)) a) :
    (Code.region id l.toArray true).wp P R a w := wp_region_held hm (wpAny_heldQ hd tl hB hQ h)
theorem wpIn_heldQ {P : Program} {id : Nat} {R : Exit → Act → World → Prop} {a : Act} {w : World} {l : List Oper} (hd tl : List Nat) (hm : P.follows .mixedOrders = true) (hLO : ¬ LetsOut R) (hND : noDefer l.toArray = true) {r n0 : Nat}
    (hB : (Region.noSelect l.toArray && pureB .any l.toArray hd (Array.replicate l.length false) && tailB .any l.toArray tl (markB hd (Array.replicate l.length false)) && decide (hd.length + tl.length = l.length)) = true)
    (hQ : ∀ c a d v w, R (.panic c) (Act.put a d v) w → R (.panic c) a w)
    (h : wpQuiet P l.toArray (fun w' => ∃ m : QW w, w' = m.val) (fun a' => wpListS P l.toArray R (fun w' => ∃ m : QW w, w' = m.val) (tl.map (l.toArray.getD · default)) a' w.drew) (hd.map (l.toArray.getD · default)) a) :
    (Code.region id l.toArray true).wpIn (Fence.wide.inRound r) n0 P R a w := wpIn_region_round hm hLO hND (wpAny_of_held _ _ _ _ (wpAny_heldQ hd tl hB hQ h))
/-! In stages. -/
section
variable {P : Program} {ops : Array Oper} {R : Exit → Act → World → Prop} {S : World → Prop}
def wpListK (P : Program) (ops : Array Oper) (R : Exit → Act → World → Prop) (S : World → Prop) (E : Act → World → Prop) : List Oper → Act → World → Prop
  | [], a, w => E a w
  | o :: r, a, w => ∀ K : Act → World → Prop, Hid (∀ a' w', S w' → wpListK P ops R S E r a' w' → K a' w') → wpList P ops (Exit.then K R) [o] a w
def forcedB (ops : Array Oper) : List Nat → Array Bool → Bool
  | [], _ => true
  | k :: r, ls => decide (Region.ready .any ops ls = [k]) && (ops[k]?).isSome && forcedB ops r (ls.setIfInBounds k true)
theorem any_chain (f : Nat) (tl : List Nat) : ∀ (ls : Array Bool) (a : Act) (w : World) (E : Act → World → Prop), S w → forcedB ops tl ls = true → (∀ a w, S w → E a w → wpAnyH P .any ops R S f (markB tl ls) a w) →
    wpListK P ops R S E (tl.map (ops.getD · default)) a w → wpAnyH P .any ops R S (tl.length + f) ls a w := by
  induction tl with
  | nil => intro ls a w E hS hB hE h; rw [List.length_nil, Nat.zero_add]; exact hE a w hS h
  | cons k r ih =>
    intro ls a w E hS hB hE h
    simp only [forcedB, Bool.and_eq_true, decide_eq_true_eq] at hB
    rw [List.length_cons, Nat.add_right_comm]
    refine wpAnyH_all hB.1.1 (by simp) fun i hi => ?_
    have e : i = k := by simpa using hi
    subst e
    obtain ⟨o, ho⟩ := Option.isSome_iff_exists.1 hB.1.2
    have hk : ops.getD i default = o := by simp [Array.getD_eq_getD_getElem?, ho]
    rw [List.map_cons, hk] at h
    exact wpOp_of_one ho (h _ (fun a' w' hs h' => ⟨hs, ih _ a' w' E hs hB.2 hE h'⟩))
def wpPlan (P : Program) (ops : Array Oper) (R : Exit → Act → World → Prop) (S : World → Prop) : List (List Nat × List Nat) → Act → World → Prop
  | [], a, w => R .normal a w
  | (hd, tl) :: ps, a, w => wpQuiet P ops S (fun a' => wpListK P ops R S (wpPlan P ops R S ps) (tl.map (ops.getD · default)) a' w) (hd.map (ops.getD · default)) a
def planB (ops : Array Oper) : List (List Nat × List Nat) → Array Bool → Bool
  | [], ls => (Region.ready .any ops ls).isEmpty
  | (hd, tl) :: ps, ls => pureB .any ops hd ls && forcedB ops tl (markB hd ls) && planB ops ps (markB tl (markB hd ls))
def planN : List (List Nat × List Nat) → Nat
  | [] => 0
  | (hd, tl) :: ps => hd.length + (tl.length + planN ps)
theorem any_plan (hsel : Region.noSelect ops = true) (hQ : ∀ c a d v w, R (.panic c) (Act.put a d v) w → R (.panic c) a w) (ps : List (List Nat × List Nat)) : ∀ (ls : Array Bool) (a : Act) (w : World), S w → planB ops ps ls = true →
    wpPlan P ops R S ps a w → wpAnyH P .any ops R S (planN ps) ls a w := by
  induction ps with
  | nil => intro ls a w hS hB h; exact ⟨by simpa [planB] using hB, h⟩
  | cons p ps ih =>
    obtain ⟨hd, tl⟩ := p
    intro ls a w hS hB h
    simp only [planB, Bool.and_eq_true] at hB
    refine any_headS hsel hQ _ w hS hd ls a hB.1.1 ?_
    exact wpQuiet_mono (fun a' h' => any_chain _ tl _ a' w _ hS hB.1.2 (fun a w hs he => ih _ a w hs hB.2 he) h') _ _ h
end
/-- In stages: first reads, then one by one what else there is. -/
theorem wp_plan {P : Program} {id : Nat} {R : Exit → Act → World → Prop} {a : Act} {w : World} {l : List Oper} (ps : List (List Nat × List Nat)) (hm : P.follows .mixedOrders = true)
    (hB : (Region.noSelect l.toArray && planB l.toArray ps (Array.replicate l.length false) && decide (planN ps = l.length)) = true)
    (hQ : ∀ c a d v w, R (.panic c) (Act.put a d v) w → R (.panic c) a w)
    (h : wpPlan P l.toArray R (fun w' => ∃ m : QW w, w' = m.val) ps a w.drew) : (Code.region id l.toArray true).wp P R a w := by
  simp only [Bool.and_eq_true, decide_eq_true_eq] at hB
  refine wp_region_held (S := fun w' => ∃ m : QW w, w' = m.val) hm ?_
  have := any_plan hB.1.1 hQ ps (Array.replicate l.length false) a w.drew ⟨⟨w.drew, (Q.refl w).drew⟩, rfl⟩ hB.1.2 h
  rw [hB.2] at this
  exact this
theorem wpIn_plan {P : Program} {id : Nat} {R : Exit → Act → World → Prop} {a : Act} {w : World} {l : List Oper} (ps : List (List Nat × List Nat)) (hm : P.follows .mixedOrders = true) (hLO : ¬ LetsOut R) (hND : noDefer l.toArray = true) {r n0 : Nat}
    (hB : (Region.noSelect l.toArray && planB l.toArray ps (Array.replicate l.length false) && decide (planN ps = l.length)) = true)
    (hQ : ∀ c a d v w, R (.panic c) (Act.put a d v) w → R (.panic c) a w)
    (h : wpPlan P l.toArray R (fun w' => ∃ m : QW w, w' = m.val) ps a w.drew) : (Code.region id l.toArray true).wpIn (Fence.wide.inRound r) n0 P R a w := by
  simp only [Bool.and_eq_true, decide_eq_true_eq] at hB
  refine wpIn_region_round hm hLO hND (wpAny_of_held (S := fun w' => ∃ m : QW w, w' = m.val) _ _ _ _ ?_)
  have := any_plan hB.1.1 hQ ps (Array.replicate l.length false) a w.drew ⟨⟨w.drew, (Q.refl w).drew⟩, rfl⟩ hB.1.2 h
  rw [hB.2] at this
  exact this
end Go.Proofs.YtcbepjepcabllaaGreatDoor
/- A region that draws its order: some pure operations first, then reads (and what lays memory) in stages, and at the end a forced chain for which all the rest but the pure ones must wait: of that chain nothing is asked. -/
set_option linter.unusedVariables false
namespace Go.Proofs.YtcbepjepcabllaaGreatDoor
open Go Go.RowKit
section
variable {P : Program} {ops : Array Oper} {R : Exit → Act → World → Prop} {S : World → Prop}
/-- Whatever order is picked from here on, and S holds behind every operation ahead of those of zs. -/
def wpAnyZ (P : Program) (ops : Array Oper) (R : Exit → Act → World → Prop) (S : World → Prop) (zs : List Nat) : Nat → Array Bool → Act → World → Prop
  | 0, ls, a, w => Region.ready .any ops ls = [] ∧ R .normal a w
  | f + 1, ls, a, w => (Region.ready .any ops ls = [] → R .normal a w) ∧ ∀ i ∈ Region.ready .any ops ls, wpOp P ops R i (fun a' w' => if i ∈ zs then wpAny P .any ops R f (ls.setIfInBounds i true) a' w' else S w' ∧ wpAnyZ P ops R S zs f (ls.setIfInBounds i true) a' w') a w
theorem wpAny_of_Z {zs : List Nat} : ∀ (f : Nat) (ls : Array Bool) (a : Act) (w : World), wpAnyZ P ops R S zs f ls a w → wpAny P .any ops R f ls a w
  | 0, _, _, _, h => h
  | f + 1, ls, _, _, h => ⟨h.1, fun i hi => wpOp_mono (fun a' w' h' => by
      by_cases e : i ∈ zs
      · rw [if_pos e] at h'; exact h'
      · rw [if_neg e] at h'; exact wpAny_of_Z f _ a' w' h'.2) (h.2 i hi)⟩
structure ClosedL (ops : Array Oper) (ls : Array Bool) : Prop where
  size : ls.size = ops.size
  closed : ∀ j oj, ops[j]? = some oj → ls.getD j false = true → ∀ e ∈ oj.after, Region.binds .any e = true → ls.getD e.on false = true
theorem ClosedL.set {ls : Array Bool} {i : Nat} (inv : ClosedL ops ls) (hi : i ∈ Region.ready .any ops ls) : ClosedL ops (ls.setIfInBounds i true) := by
  obtain ⟨_, oi, hoi, hall⟩ := mem_ready.1 hi
  refine ⟨by simp [inv.size], fun j oj hj hl e he hb => ?_⟩
  by_cases hij : i = j
  · subst hij
    have : oj = oi := Option.some.inj (hj.symm.trans hoi)
    subst this
    exact getD_set_true (hall e he hb)
  · rw [getD_set_ne false hij] at hl
    exact getD_set_true (inv.closed j oj hj hl e he hb)
theorem sink_all {qs : List Nat} {z : Nat} {ls : Array Bool} {N : Nat} (hN : ∀ i ∈ z :: qs, i < N) (hs : sinkL ops qs z = true) (hsz : ∀ i ∈ z :: qs, i < ops.size) (inv : ClosedL ops ls) (hz : z ∈ Region.ready .any ops ls) :
    ∀ (d i : Nat), N - i = d → i ∈ qs → ls.getD i true = false → False := by
  intro d
  induction d using Nat.strongRecOn with
  | _ d ih =>
    intro i hd hi hun
    have h1 := List.all_eq_true.1 hs i hi
    obtain ⟨j, hj, hj2⟩ := List.any_eq_true.1 h1
    simp only [Bool.and_eq_true, decide_eq_true_eq] at hj2
    obtain ⟨oj, hoj, e, he, hb, hon⟩ := Region.waitsFor_spec hj2.2
    have hjN := hN j hj
    rcases List.mem_cons.1 hj with hjt | hjt
    · subst hjt
      obtain ⟨_, oz, hoz, hall⟩ := mem_ready.1 hz
      have : oj = oz := Option.some.inj (hoj.symm.trans hoz)
      subst this
      have h2 := hall e he hb
      rw [hon, getD_both hun] at h2
      cases h2
    · cases hl : ls.getD j false with
      | true =>
        have h2 := inv.closed j oj hoj hl e he hb
        rw [hon, getD_both hun] at h2
        cases h2
      | false =>
        have hjs : j < ls.size := by rw [inv.size]; exact hsz j hj
        exact ih (N - j) (by omega) j rfl hjt (getD_in hjs hl)
theorem yields_all {o : Oper} {v : Value} {a : Act} (h : YieldsIf P ops (fun _ => True) o v a) : Yields P ops o v a := h.imp (fun ⟨hw, hv⟩ => ⟨hw, fun w => hv w trivial⟩) id
/-- T: what the operation asks of the world to be read. -/
theorem wpAnyZ_first {zs : List Nat} {i : Nat} {oi : Oper} {v : Value} {T : World → Prop} (hi : ops[i]? = some oi) (hsel : ∀ (j : Nat) (o : Oper) cs b, ops[j]? = some o → o.op ≠ .select cs b)
    (hQ : ∀ c a w, R (.panic c) (a.put oi.dst v) w → R (.panic c) a w) (hiz : i ∉ zs) (hT : ∀ w, S w → T w) (hz : (∀ ls, ClosedL ops ls → ls.getD i true = false → ∀ z ∈ zs, z ∉ Region.ready .any ops ls) ∨ ∀ w, T w) :
    ∀ (fuel : Nat) (ls : Array Bool) (a : Act) (w : World), ClosedL ops ls →
      (∀ j oj, ops[j]? = some oj → j ≠ i → ls.getD j true = false → (∀ e ∈ oj.after, Region.binds .any e = true → e.on ≠ i) → oi.apart ops oj = true) →
      i ∈ Region.ready .any ops ls → YieldsIf P ops T oi v a → S w →
      wpAnyZ P ops R S zs fuel (ls.setIfInBounds i true) (a.put oi.dst v) w → wpAnyZ P ops R S zs (fuel + 1) ls a w := by
  intro fuel
  induction fuel with
  | zero =>
    intro ls a w inv _ hr hy hS H
    refine ⟨fun h => (by rw [h] at hr; cases hr), fun j hj => ?_⟩
    by_cases hji : j = i
    · subst hji; exact hy.wpOp hi (hT w hS) (by rw [if_neg hiz]; exact ⟨hS, H⟩)
    · have := ready_mono hj hji
      rw [H.1] at this
      cases this
  | succ fuel ih =>
    intro ls a w inv hfree hr hy hS H
    have hun := (mem_ready.1 hr).1
    refine ⟨fun h => (by rw [h] at hr; cases hr), fun j hj => ?_⟩
    by_cases hji : j = i
    · subst hji; exact hy.wpOp hi (hT w hS) (by rw [if_neg hiz]; exact ⟨hS, H⟩)
    · have h1 := H.2 j (ready_mono hj hji)
      obtain ⟨hjun, oj, hoj, hall⟩ := mem_ready.1 hj
      have hnot : ∀ e ∈ oj.after, Region.binds .any e = true → e.on ≠ i := fun e he hb heq => by
        have h2 := hall e he hb
        rw [heq, getD_both hun] at h2
        cases h2
      have h2 := wpOp_putIf hoj (hfree j oj hoj hji hjun hnot) (fun cs b => hsel i oi cs b hi) (fun cs b => hsel j oj cs b hoj) hQ hy h1
      have hfree' : ∀ k ok, ops[k]? = some ok → k ≠ i → (ls.setIfInBounds j true).getD k true = false →
          (∀ e ∈ ok.after, Region.binds .any e = true → e.on ≠ i) → oi.apart ops ok = true := fun k ok hk hki hku hno => by
        refine hfree k ok hk hki ?_ hno
        by_cases hjk : j = k
        · subst hjk; exact hjun
        · rw [getD_set_ne true hjk] at hku; exact hku
      by_cases hjz : j ∈ zs
      · have hTT : ∀ w, T w := hz.elim (fun h => absurd hj (h ls inv hun j hjz)) id
        refine wpOp_mono (fun a' w' h3 => ?_) h2
        rw [if_pos hjz] at h3 ⊢
        refine wpAny_first hi hsel hQ _ _ _ _ hfree' (ready_mono hr (Ne.symm hji)) (yields_all ?_) ?_
        · exact h3.1.imp (fun ⟨hw, hv⟩ => ⟨hw, fun w _ => hv w (hTT w)⟩) id
        · rw [Array.setIfInBounds_comm _ _ hji]; exact h3.2
      · refine wpOp_mono (fun a' w' h3 => ?_) h2
        rw [if_neg hjz] at h3 ⊢
        refine ⟨h3.2.1, ih (ls.setIfInBounds j true) a' w' (inv.set hj) hfree' (ready_mono hr (Ne.symm hji)) h3.1 h3.2.1 ?_⟩
        rw [Array.setIfInBounds_comm _ _ hji]
        exact h3.2.2
/-- Pure ones (T: whatever world), or reads. -/
theorem headZ {zs : List Nat} {T : World → Prop} (hsel : Region.noSelect ops = true) (hQ : ∀ c a d v w, R (.panic c) (Act.put a d v) w → R (.panic c) a w) (hT : ∀ w, S w → T w) (hd : List Nat) (hz : (∀ i ∈ hd, ∀ ls, ClosedL ops ls → ls.getD i true = false → ∀ z ∈ zs, z ∉ Region.ready .any ops ls) ∨ ∀ w, T w) (f : Nat) (w : World) (hS : S w) : ∀ (ls : Array Bool) (a : Act), ClosedL ops ls → (∀ i ∈ hd, i ∉ zs) → pureB .any ops hd ls = true →
    wpQuiet P ops T (fun a' => ClosedL ops (markB hd ls) → wpAnyZ P ops R S zs f (markB hd ls) a' w) (hd.map (ops.getD · default)) a → wpAnyZ P ops R S zs (hd.length + f) ls a w := by
  induction hd with
  | nil => intro ls a inv _ hB h; rw [List.length_nil, Nat.zero_add]; exact h inv
  | cons k r ih =>
    intro ls a inv hzn hB h
    simp only [pureB, Bool.and_eq_true] at hB
    have hzk : k ∉ zs := hzn k (by simp)
    have hzr : ∀ i ∈ r, i ∉ zs := fun i e => hzn i (List.mem_cons_of_mem _ e)
    have ih := ih (hz.imp (fun h i hi => h i (List.mem_cons_of_mem _ hi)) id)
    have hkz := hz.imp (fun h => h k (by simp)) id
    have hkr : k ∈ Region.ready .any ops ls := by simpa using hB.1.2
    cases ho : ops[k]? with
    | none => rw [ho] at hB; simp at hB
    | some o =>
      rw [ho] at hB
      have hk : ops.getD k default = o := by simp [Array.getD_eq_getD_getElem?, ho]
      rw [List.map_cons, hk] at h
      have h2 : if Region.wanted o (yielded ops a.tmps) then o.quiet P a T (wpQuiet P ops T (fun a' => ClosedL ops (markB (k :: r) ls) → wpAnyZ P ops R S zs f (markB (k :: r) ls) a' w) (r.map (ops.getD · default)))
        else wpQuiet P ops T (fun a' => ClosedL ops (markB (k :: r) ls) → wpAnyZ P ops R S zs f (markB (k :: r) ls) a' w) (r.map (ops.getD · default)) (a.put o.dst undef) := h
      rw [List.length_cons, Nat.add_right_comm]
      split at h2
      · next hw =>
        obtain ⟨v, hv, hn⟩ := h2
        refine wpAnyZ_first ho (Region.noSelect_spec hsel) (fun c a w => hQ c a _ _ w) hzk hT hkz _ ls a w inv (Region.free_spec ho hB.1.1.2) hkr (.inl ⟨hw, fun w' hw' => ?_⟩) hS (ih _ _ (inv.set hkr) hzr hB.2 hn)
        have h3 := hv w' hw'
        unfold Oper.quietAt at h3
        cases hr : (execOp a.eval o).run P w' with
        | halt x u => rw [hr] at h3; simp only [Oper.quietUpon] at h3
        | ok n u =>
          obtain ⟨x, rfl⟩ := pure_run hB.1.1.1 hr
          rw [hr] at h3
          simp only [Oper.quietUpon] at h3
          rw [h3.1, h3.2]
      · next hw =>
        exact wpAnyZ_first ho (Region.noSelect_spec hsel) (fun c a w => hQ c a _ _ w) hzk hT hkz _ ls a w inv (Region.free_spec ho hB.1.1.2) hkr (.inr ⟨by simpa using hw, rfl⟩) hS (ih _ _ (inv.set hkr) hzr hB.2 h2)
theorem chainZ {zs : List Nat} (f : Nat) (tl : List Nat) : ∀ (ls : Array Bool) (a : Act) (w : World) (E : Act → World → Prop), S w → ClosedL ops ls → (∀ i ∈ tl, i ∉ zs) → forcedB ops tl ls = true → (∀ a w, S w → ClosedL ops (markB tl ls) → E a w → wpAnyZ P ops R S zs f (markB tl ls) a w) →
    wpListK P ops R S E (tl.map (ops.getD · default)) a w → wpAnyZ P ops R S zs (tl.length + f) ls a w := by
  induction tl with
  | nil => intro ls a w E hS inv _ hB hE h; rw [List.length_nil, Nat.zero_add]; exact hE a w hS inv h
  | cons k r ih =>
    intro ls a w E hS inv hzn hB hE h
    simp only [forcedB, Bool.and_eq_true, decide_eq_true_eq] at hB
    rw [List.length_cons, Nat.add_right_comm]
    refine ⟨fun h0 => (by rw [hB.1.1] at h0; cases h0), fun i hi => ?_⟩
    have hi' := hi
    rw [hB.1.1] at hi
    have e : i = k := by simpa using hi
    subst e
    obtain ⟨o, ho⟩ := Option.isSome_iff_exists.1 hB.1.2
    have hk : ops.getD i default = o := by simp [Array.getD_eq_getD_getElem?, ho]
    rw [List.map_cons, hk] at h
    exact wpOp_of_one ho (h _ (fun a' w' hs h' => by rw [if_neg (hzn i (by simp))]; exact ⟨hs, ih _ a' w' E hs (inv.set hi') (fun j hj => hzn j (List.mem_cons_of_mem _ hj)) hB.2 hE h'⟩))
def wpFin (P : Program) (ops : Array Oper) (R : Exit → Act → World → Prop) (S : World → Prop) (zs : List Nat) : List (List Nat × List Nat) → Act → World → Prop
  | [], a, w => wpList P ops R (zs.map (ops.getD · default)) a w
  | (hd, tl) :: ps, a, w => wpQuiet P ops S (fun a' => wpListK P ops R S (wpFin P ops R S zs ps) (tl.map (ops.getD · default)) a' w) (hd.map (ops.getD · default)) a
def finB (ops : Array Oper) (zs : List Nat) : List (List Nat × List Nat) → Array Bool → Bool
  | [], ls => tailB .any ops zs ls && (Region.ready .any ops ls).all (zs.contains ·)
  | (hd, tl) :: ps, ls => (hd ++ tl).all (fun i => !zs.contains i) && pureB .any ops hd ls && forcedB ops tl (markB hd ls) && finB ops zs ps (markB tl (markB hd ls))
theorem not_mem_of {zs l : List Nat} (h : l.all (fun i => !zs.contains i) = true) : ∀ i ∈ l, i ∉ zs := fun i hi he => by
  have := List.all_eq_true.1 h i hi
  rw [List.contains_iff_mem.2 he] at this
  cases this
theorem any_fin {zs : List Nat} (hsel : Region.noSelect ops = true) (hQ : ∀ c a d v w, R (.panic c) (Act.put a d v) w → R (.panic c) a w)
    (ps : List (List Nat × List Nat)) (hz : ∀ p ∈ ps, ∀ i ∈ p.1, ∀ ls, ClosedL ops ls → ls.getD i true = false → ∀ z ∈ zs, z ∉ Region.ready .any ops ls) : ∀ (ls : Array Bool) (a : Act) (w : World), S w → ClosedL ops ls → finB ops zs ps ls = true →
    wpFin P ops R S zs ps a w → wpAnyZ P ops R S zs (planN ps + zs.length) ls a w := by
  induction ps with
  | nil =>
    intro ls a w hS inv hB h
    simp only [finB, Bool.and_eq_true] at hB
    have h1 := wpAny_of_held _ _ _ _ (any_tail zs ls a w hB.1 h)
    have e : planN [] + zs.length = zs.length := by simp [planN]
    rw [e]
    generalize zs.length = f at h1
    cases f with
    | zero => exact h1
    | succ f =>
      refine ⟨h1.1, fun i hi => wpOp_mono (fun a' w' h' => ?_) (h1.2 i hi)⟩
      rw [if_pos (by simpa using List.all_eq_true.1 hB.2 i hi)]
      exact h'
  | cons p ps ih =>
    obtain ⟨hd, tl⟩ := p
    intro ls a w hS inv hB h
    simp only [finB, Bool.and_eq_true] at hB
    have hn := not_mem_of hB.1.1.1
    have e : planN ((hd, tl) :: ps) + zs.length = hd.length + (tl.length + (planN ps + zs.length)) := by simp [planN]; omega
    rw [e]
    refine headZ hsel hQ (T := S) (fun _ h => h) hd (.inl (hz (hd, tl) (by simp))) _ w hS ls a inv (fun i hi => hn i (by simp [hi])) hB.1.1.2 ?_
    exact wpQuiet_mono (fun a' h' inv' => chainZ _ tl _ a' w _ hS inv' (fun i hi => hn i (by simp [hi])) hB.1.2 (fun a w hs inv2 he => ih (fun p hp => hz p (List.mem_cons_of_mem _ hp)) _ a w hs inv2 hB.2 he) h') _ _ h
end
/-- p0: pure operations; then stages (reads, and one by one what else there is); zs: the end, for whose members all that is read must wait (it is not so for those of p0). -/
theorem wp_fin {P : Program} {id : Nat} {R : Exit → Act → World → Prop} {a : Act} {w : World} {l : List Oper} (p0 : List Nat) (ps : List (List Nat × List Nat)) (zs : List Nat) (hm : P.follows .mixedOrders = true)
    (hB : (Region.noSelect l.toArray && pureB .any l.toArray p0 (Array.replicate l.length false) && p0.all (fun i => !zs.contains i) && finB l.toArray zs ps (markB p0 (Array.replicate l.length false)) && decide (p0.length + (planN ps + zs.length) = l.length)
      && ps.all (fun p => p.1.all fun i => decide (i < l.length)) && zs.all (fun z => decide (z < l.length) && sinkL l.toArray ((List.range l.length).filter fun i => !p0.contains i && decide (i < z)) z && ps.all fun p => p.1.all fun i => decide (i < z) && !p0.contains i)) = true)
    (hQ : ∀ c a d v w, R (.panic c) (Act.put a d v) w → R (.panic c) a w)
    (h : wpQuiet P l.toArray (fun _ => True) (fun a' => wpFin P l.toArray R (fun w' => ∃ m : QW w, w' = m.val) zs ps a' w.drew) (p0.map (l.toArray.getD · default)) a) : (Code.region id l.toArray true).wp P R a w := by
  simp only [Bool.and_eq_true, decide_eq_true_eq] at hB
  obtain ⟨⟨⟨⟨⟨⟨h1, h2⟩, h3⟩, h4⟩, h5⟩, h6⟩, h7⟩ := hB
  have hz : ∀ p ∈ ps, ∀ i ∈ p.1, ∀ ls, ClosedL l.toArray ls → ls.getD i true = false → ∀ z ∈ zs, z ∉ Region.ready .any l.toArray ls := fun p hp i hi ls inv hun z hzz hr => by
    have h8 := List.all_eq_true.1 h7 z hzz
    simp only [Bool.and_eq_true, decide_eq_true_eq] at h8
    have h9 := List.all_eq_true.1 (List.all_eq_true.1 h8.2 p hp) i hi
    simp only [Bool.and_eq_true, decide_eq_true_eq] at h9
    have hb : ∀ j ∈ z :: ((List.range l.length).filter fun i => !p0.contains i && decide (i < z)), j < l.length := fun j hj => by
      rcases List.mem_cons.1 hj with e | e
      · omega
      · exact List.mem_range.1 (List.mem_filter.1 e).1
    refine sink_all (N := l.length) hb h8.1.2 (fun j hj => by have := hb j hj; simpa using this) inv hr _ i rfl (List.mem_filter.2 ⟨List.mem_range.2 (by omega), ?_⟩) hun
    simp only [Bool.and_eq_true, decide_eq_true_eq]
    exact ⟨h9.2, h9.1⟩
  have inv0 : ClosedL l.toArray (Array.replicate l.length false) := ⟨by simp, fun j oj hj hl => by
      rw [Array.getD_eq_getD_getElem?] at hl
      by_cases hjl : j < l.length
      · simp [hjl] at hl
      · simp [hjl] at hl⟩
  have hS : (fun w' => ∃ m : QW w, w' = m.val) w.drew := ⟨⟨w.drew, (Q.refl w).drew⟩, rfl⟩
  refine wp_region_any hm (wpAny_of_Z (S := fun w' => ∃ m : QW w, w' = m.val) (zs := zs) _ _ _ _ ?_)
  have := headZ (zs := zs) (S := fun w' => ∃ m : QW w, w' = m.val) (T := fun _ => True) h1 hQ (fun _ _ => trivial) p0 (.inr fun _ => trivial) (planN ps + zs.length) w.drew hS _ a inv0 (not_mem_of h3) h2
    (wpQuiet_mono (fun a' h' inv' => any_fin h1 hQ ps hz _ a' w.drew hS inv' h4 h') _ _ h)
  rw [h5] at this
  exact this
end Go.Proofs.YtcbepjepcabllaaGreatDoor
/- A disk: what lies in memory; worlds that change the disk's blocks alone. -/
set_option linter.unusedVariables false
set_option linter.unusedSimpArgs false
namespace Go.Proofs.YtcbepjepcabllaaGreatDoor
open Go Go.RowKit
/-- A disk, plain: what lasts, what is pending, the power (gone; its fuse), is it dead. -/
structure DskS where
  has : List UInt8
  wait : List (Nat × List UInt8)
  gone : Bool
  fuse : Int
  dead : Bool
def lateL (p : Nat × List UInt8) : List Value := [.int .i64 (p.1 : Int), .string ⟨p.2.toArray⟩]
def cellsW (l : List (Nat × List UInt8)) : List Value := l.flatMap lateL
theorem lateL_len (p : Nat × List UInt8) : (lateL p).length = 2 := rfl
theorem cellsW_len (l : List (Nat × List UInt8)) : (cellsW l).length = l.length * 2 := by
  induction l with
  | nil => rfl
  | cons p r ih => simp only [cellsW, List.flatMap_cons, List.length_append, lateL_len, List.length_cons] at *; omega
theorem cellsW_app (a b : List (Nat × List UInt8)) : cellsW (a ++ b) = cellsW a ++ cellsW b := by simp [cellsW]
theorem cellsW_one (p : Nat × List UInt8) : cellsW [p] = lateL p := by simp [cellsW]
theorem cellsW_at (ps : List (Nat × List UInt8)) : ∀ (j : Nat) (h : j < ps.length) (i : Nat), i < 2 → (cellsW ps)[j * 2 + i]? = (lateL ps[j])[i]? := by
  induction ps with
  | nil => intro j h; simp at h
  | cons p r ih =>
    intro j h i hi
    have e : cellsW (p :: r) = lateL p ++ cellsW r := by simp [cellsW]
    rw [e]
    cases j with
    | zero => rw [Nat.zero_mul, Nat.zero_add, List.getElem?_append_left (by rw [lateL_len]; exact hi)]; rfl
    | succ j =>
      rw [List.getElem?_append_right (by rw [lateL_len]; omega), lateL_len, show (j + 1) * 2 + i - 2 = j * 2 + i by omega, ih j (by simpa using h) i hi]
      rfl
/-- The pending writes, in a slice of the disk's own. -/
def OwnW (w0 w : World) (v : Value) (l : List (Nat × List UInt8)) : Prop := w.ownsRow w0.heap.size 68 2 v l.length (cellsW l)
theorem info_late : (Tryz.prog.info? 68).map (fun i => (i.zero, i.size, i.bytes)) = some (some (.agg #[.int .i64 0, .string ⟨#[]⟩]), 2, 24) := by kernel_rfl
theorem infoL : (Tryz.prog.info? 68).map (·.size) = some 2 := by kernel_rfl
theorem OwnW.nil (w0 w : World) : OwnW w0 w (.slice none 0 0) [] := ⟨rfl, .inl ⟨rfl, rfl⟩⟩
theorem OwnW.g {w0 w w' : World} {v : Value} {l : List (Nat × List UInt8)} {row : Option Nat} (h : OwnW w0 w v l) (hg : w.grownBy w' row) (hr : ∀ k, v.ownBlock = some k → row ≠ some k) : OwnW w0 w' v l := by
  refine ⟨h.1, ?_⟩
  rcases h.2 with h2 | ⟨g, cap, cur, hv, h1, h2, h3⟩
  · exact .inl h2
  · refine .inr ⟨g, cap, cur, hv, h1, ?_, h3⟩
    rw [hg.block g (Array.getElem?_eq_some_iff.1 h2).1 (fun e => hr g (by rw [hv]; rfl) e.symm)]
    exact h2
theorem OwnW.q {w0 w w' : World} {v : Value} {l : List (Nat × List UInt8)} (h : OwnW w0 w v l) (hq : Q w w') : OwnW w0 w' v l := h.g (hq.gb none) (fun _ _ e => by cases e)
theorem OwnW.block {w0 w : World} {v : Value} {l : List (Nat × List UInt8)} (h : OwnW w0 w v l) {k : Nat} (hk : v.ownBlock = some k) : w0.heap.size ≤ k ∧ k < w.heap.size ∧ ∃ cur fz, w.heap[k]? = some (.cells cur 68 fz) := by
  rcases h.2 with ⟨rfl, _⟩ | ⟨g, cap, cur, rfl, h1, h2, _⟩
  · cases hk
  · have := (Array.getElem?_eq_some_iff.1 h2).1
    have e : g = k := by simpa [Value.ownBlock] using hk
    subst e
    exact ⟨h1, this, cur, _, h2⟩
/-- Pending write j: its cells. -/
theorem OwnW.at {w0 w : World} {v : Value} {l : List (Nat × List UInt8)} (h : OwnW w0 w v l) : ∃ A cap, v = .slice A l.length cap ∧ l.length ≤ cap ∧ ∀ j (hj : j < l.length), ∃ g, A = some ⟨g, 0, none⟩ ∧ w.cell? ⟨g, j * 2, none⟩ = some (.int .i64 ((l[j].1 : Nat) : Int)) ∧ w.cell? ⟨g, j * 2 + 1, none⟩ = some (.string ⟨l[j].2.toArray⟩) := by
  rcases h.2 with ⟨rfl, h0⟩ | ⟨g, cap, cur, rfl, hb, hh, hn, hm, hcs, ht⟩
  · exact ⟨none, 0, by rw [h0], by omega, fun j hj => by omega⟩
  · refine ⟨_, cap, rfl, hn, fun j hj => ⟨g, rfl, ?_, ?_⟩⟩
    · have e := cellsW_at l j hj 0 (by omega)
      have e2 : cur[j * 2]? = some (.int .i64 ((l[j].1 : Nat) : Int)) := by
        rw [← ht, List.getElem?_take, if_pos (by omega)] at e
        rw [← Array.getElem?_toList]; simpa [lateL] using e
      rw [cell_of_row _ _ _ _ _ _ hh]; exact e2
    · have e := cellsW_at l j hj 1 (by omega)
      have e2 : cur[j * 2 + 1]? = some (.string ⟨l[j].2.toArray⟩) := by
        rw [← ht, List.getElem?_take, if_pos (by omega)] at e
        rw [← Array.getElem?_toList]; simpa [lateL] using e
      rw [cell_of_row _ _ _ _ _ _ hh]; exact e2
/-- append(l, p). -/
theorem wpList_append_w {ops : Array Oper} {rest : List Oper} {o : Oper} {a : Act} {R : Exit → Act → World → Prop} (hgd : o.guard = none) (s x : Operand)
    (ho : o.op = .call { callee := .builtin .append, args := #[s, x], argTypes := #[63, 63] })
    (w0 W : World) (v : Value) (ps : List (Nat × List UInt8)) (p : Nat × List UInt8) (hs : a.eval s = v) (hown : OwnW w0 W v ps) (hx : a.eval x = .slice (some ⟨W.heap.size, 0, none⟩) 1 1) (hq : w0.heap.size ≤ W.heap.size) (hb : (ps.length + 1) * 24 ≤ 140737488355328)
    (h : ∀ v' w', OwnW w0 w' v' (ps ++ [p]) → W.grownBy w' v.ownBlock → wpList Tryz.prog ops R rest (a.put o.dst v') w') : wpList Tryz.prog ops R (o :: rest) a (W.alloc (.cells (lateL p).toArray 68)) := by
  obtain ⟨i, hi, hz, hsz, hby⟩ := info_parts info_late
  have hown1 : OwnW w0 (W.alloc (.cells (lateL p).toArray 68)) v ps := hown.q ((Q.refl W).alloc _)
  refine wpList_append_own_at (w := W.alloc (.cells (lateL p).toArray 68)) hgd s x 63 ho w0.heap.size 68 i _ 2 24 Tryz.underlying63 hi hz hsz hby rfl (by decide) v ps.length (cellsW ps) hs hown1 ⟨W.heap.size, 0, none⟩ 1 1 (lateL p) hx rfl ?_ ?_ (by unfold maxLen; omega) hb (by simp; omega) ?_
  · intro j u hj
    have e : (Addr.add ⟨W.heap.size, 0, none⟩ j) = ⟨W.heap.size, j, none⟩ := by unfold Addr.add; split <;> simp_all
    rw [e, cell_of_row _ _ _ _ _ _ (MapKept.heap_alloc W _).1]
    simpa using hj
  · intro u hu
    simp only [lateL, List.mem_cons, List.not_mem_nil, or_false] at hu
    rcases hu with rfl | rfl <;> rfl
  · intro v' w' h2 hg _ hb2
    refine h v' w' ?_ ((World.grownBy_alloc W _ _).trans hg)
    unfold OwnW; rw [cellsW_app, cellsW_one, List.length_append]; exact h2
/-- The type of what a block holds. -/
def elemT (w : World) (k : Nat) : Option TypeId := match w.heap[k]? with | some (.cells _ t _) => some t | _ => none
/-- Is it one of the disk's? -/
def dT (o : Option TypeId) : Bool := o == some 65 || o == some 96 || o == some 68 || o == some 5
theorem elemT_of {w : World} {k : Nat} {cs : Array Value} {t : TypeId} {fz : Nat × Nat} (h : w.heap[k]? = some (.cells cs t fz)) : elemT w k = some t := by unfold elemT; rw [h]
/-- All that stood stays, but what the disk's blocks hold, and these. -/
structure K (w0 : World) (S : List Nat) (a b : World) : Prop where
  os : b.os = a.os
  tape : b.tape = a.tape
  output : b.output = a.output
  size : a.heap.size ≤ b.heap.size
  block : ∀ k, k < a.heap.size → k ∉ S → (k < w0.heap.size ∨ dT (elemT a k) = false) → b.heap[k]? = a.heap[k]?
theorem K.q {w0 : World} {S : List Nat} {a b : World} (h : Q a b) : K w0 S a b := ⟨h.os, h.tape, h.output, h.size, fun k hk _ _ => Below.block h k hk⟩
theorem K.trans {w0 : World} {S : List Nat} {a b c : World} (h : K w0 S a b) (k : K w0 S b c) : K w0 S a c :=
  ⟨k.os.trans h.os, k.tape.trans h.tape, k.output.trans h.output, Nat.le_trans h.size k.size, fun i hi hs hd => by
    have e := h.block i hi hs hd
    rw [k.block i (Nat.lt_of_lt_of_le hi h.size) hs (by rcases hd with hd | hd; exact .inl hd; exact .inr (by unfold elemT at *; rw [e]; exact hd)), e]⟩
theorem K.mono {w0 : World} {S S' : List Nat} {a b : World} (h : K w0 S a b) (hs : ∀ x ∈ S, x ∈ S') : K w0 S' a b := ⟨h.os, h.tape, h.output, h.size, fun k hk hn hd => h.block k hk (fun hm => hn (hs k hm)) hd⟩
theorem K.gb {w0 : World} {S : List Nat} {a b : World} {k : Nat} (h : a.grownBy b (some k)) (h0 : w0.heap.size ≤ k) (hk : k ∈ S ∨ dT (elemT a k) = true) : K w0 S a b :=
  ⟨h.os, h.tape, h.output, h.size, fun i hi hn hd => h.block i hi (by
    intro e; injection e with e; subst e
    rcases hk with hk | hk
    · exact hn hk
    · rcases hd with hd | hd
      · omega
      · rw [hk] at hd; cases hd)⟩
theorem gb_setCell (w : World) (g i : Nat) (v : Value) : w.grownBy (w.setCell ⟨g, i, none⟩ v) (some g) := Lib.grownBy_setCell w g i v
theorem gb_setRow (w : World) (g : Nat) (cs : Array Value) : w.grownBy (w.setRow g cs) (some g) := ⟨rfl, rfl, rfl, by simp [World.setRow], fun b _ hb => setRow_other _ _ b _ (fun e => hb (by rw [e]))⟩
/-- What changed new blocks alone. -/
theorem K.toQ {w0 : World} {S : List Nat} {a b : World} (h : K w0 S a b) (hq : Q w0 a) (hn : ∀ k ∈ S, w0.heap.size ≤ k) : Q w0 b :=
  Q.below hq ⟨h.os, h.tape, h.output, by have := h.size; have := hq.size; omega, fun k hk => h.block k (Nat.lt_of_lt_of_le hk hq.size) (fun hm => by have := hn k hm; omega) (.inl hk)⟩
theorem K.heap {w0 : World} {S : List Nat} {a b : World} (h : K w0 S a b) {k : Nat} {cs : Array Value} {t : TypeId} {fz : Nat × Nat} (hk : k ∉ S) (ht : dT (some t) = false) (ho : a.heap[k]? = some (.cells cs t fz)) : b.heap[k]? = some (.cells cs t fz) :=
  (h.block k (lt_of_heap ho) hk (.inr (by rw [elemT_of ho]; exact ht))).trans ho
def DskS.n (d : DskS) : Nat := d.has.length / 64
structure DskS.Ok (d : DskS) : Prop where
  len : d.has.length = 64 * d.n
  most : d.n ≤ 8192
  fuse : -1 ≤ d.fuse ∧ d.fuse ≤ 9223372036854775807
  wait : ∀ p ∈ d.wait, p.1 < d.n ∧ p.2.length = 64
/-- The disk in memory: its own block, its power's, its bytes'. -/
structure DAt (w0 w : World) (bd bp gh : Nat) (d : DskS) : Prop where
  box : ∃ wv life, w.heap[bd]? = some (.cells #[.pointer (some ⟨bp, 0, none⟩), .slice (some ⟨gh, 0, none⟩) d.has.length d.has.length, wv, .bool d.dead, .int .i64 life] 65 (0, 0)) ∧ OwnW w0 w wv d.wait
  pow : ∃ acts, w.heap[bp]? = some (.cells #[.bool d.gone, .int .i64 d.fuse, .int .i64 acts] 96 (0, 0)) ∧ -9223372036854775808 ≤ acts ∧ acts ≤ 9223372036854775807
  mem : w.heap[gh]? = some (.cells (arrB d.has) 5 (0, 0))
  nd : w0.heap.size ≤ bd
  np : w0.heap.size ≤ bp
  nh : w0.heap.size ≤ gh
  ok : d.Ok
theorem DAt.q {w0 w w' : World} {bd bp gh : Nat} {d : DskS} (h : DAt w0 w bd bp gh d) (hq : Q w w') : DAt w0 w' bd bp gh d := by
  obtain ⟨wv, life, h1, h2⟩ := h.box
  obtain ⟨acts, h3, h4⟩ := h.pow
  exact ⟨⟨wv, life, hq.block h1, h2.q hq⟩, ⟨acts, hq.block h3, h4⟩, hq.block h.mem, h.nd, h.np, h.nh, h.ok⟩
/-- Blocks of other types may change. -/
theorem DAt.gb {w0 w w' : World} {bd bp gh : Nat} {d : DskS} (h : DAt w0 w bd bp gh d) {g : Nat} (hg : w.grownBy w' (some g)) (ht : dT (elemT w g) = false) : DAt w0 w' bd bp gh d := by
  obtain ⟨wv, life, h1, h2⟩ := h.box
  obtain ⟨acts, h3, h4⟩ := h.pow
  have keep : ∀ {k : Nat} {cs : Array Value} {t : TypeId} {fz : Nat × Nat}, w.heap[k]? = some (.cells cs t fz) → dT (some t) = true → w'.heap[k]? = some (.cells cs t fz) := fun {k cs t fz} hk hd => by
    rw [hg.block k (lt_of_heap hk) (fun e => by injection e with e; subst e; rw [elemT_of hk, hd] at ht; cases ht)]; exact hk
  refine ⟨⟨wv, life, keep h1 (by decide), h2.g hg (fun k hk e => ?_)⟩, ⟨acts, keep h3 (by decide), h4⟩, keep h.mem (by decide), h.nd, h.np, h.nh, h.ok⟩
  injection e with e; subst e
  obtain ⟨_, _, cur, fz, hh⟩ := h2.block hk
  rw [elemT_of hh] at ht
  revert ht; decide
theorem DAt.bp_cell {w0 w : World} {bd bp gh : Nat} {d : DskS} (h : DAt w0 w bd bp gh d) : w.cell? ⟨bd, 0, none⟩ = some (.pointer (some ⟨bp, 0, none⟩)) := by
  obtain ⟨wv, life, h1, h2⟩ := h.box; rw [cell_of_row _ _ _ _ _ _ h1]; rfl
theorem DAt.has_cell {w0 w : World} {bd bp gh : Nat} {d : DskS} (h : DAt w0 w bd bp gh d) : w.cell? ⟨bd, 1, none⟩ = some (.slice (some ⟨gh, 0, none⟩) d.has.length d.has.length) := by
  obtain ⟨wv, life, h1, h2⟩ := h.box; rw [cell_of_row _ _ _ _ _ _ h1]; rfl
theorem DAt.dead_cell {w0 w : World} {bd bp gh : Nat} {d : DskS} (h : DAt w0 w bd bp gh d) : w.cell? ⟨bd, 3, none⟩ = some (.bool d.dead) := by
  obtain ⟨wv, life, h1, h2⟩ := h.box; rw [cell_of_row _ _ _ _ _ _ h1]; rfl
theorem DAt.gone_cell {w0 w : World} {bd bp gh : Nat} {d : DskS} (h : DAt w0 w bd bp gh d) : w.cell? ⟨bp, 0, none⟩ = some (.bool d.gone) := by
  obtain ⟨acts, h1, h2⟩ := h.pow; rw [cell_of_row _ _ _ _ _ _ h1]; rfl
theorem DAt.fuse_cell {w0 w : World} {bd bp gh : Nat} {d : DskS} (h : DAt w0 w bd bp gh d) : w.cell? ⟨bp, 1, none⟩ = some (.int .i64 d.fuse) := by
  obtain ⟨acts, h1, h2⟩ := h.pow; rw [cell_of_row _ _ _ _ _ _ h1]; rfl
end Go.Proofs.YtcbepjepcabllaaGreatDoor
/- The disk's small functions. -/
set_option linter.unusedVariables false
set_option linter.unusedSimpArgs false
namespace Go.Proofs.YtcbepjepcabllaaGreatDoor
open Go Go.RowKit
set_option maxHeartbeats 400000 in
theorem dfault_any (c : Int) (w : World) (hc : c ≠ 0) :
    Calls Tryz.prog 26 #[.int .i64 c] w fun e w' => (∃ v, e = .returned v ∧ ErrIs w' v c 0) ∧ Q w w' := by
  go_enter Tryz.func26, Tryz.ntmps26
  go_wp2
  go_ret
  exact ⟨⟨_, rfl, .inr ⟨hc, w.heap.size, rfl, (MapKept.heap_alloc w _).1⟩⟩, (Q.refl _).alloc _⟩
theorem Sectors_dk {w0 w : World} {bd bp gh : Nat} {d : DskS} (h : DAt w0 w bd bp gh d) :
    Calls Tryz.prog 54 #[.pointer (some ⟨bd, 0, none⟩)] w fun e w' => e = .returned (.int .i64 (d.n : Int)) ∧ w = w' := by
  have c1 := h.has_cell
  have h1 := h.ok.len
  have h2 := h.ok.most
  have hl : (d.has.length : Int) ≤ 524288 := by unfold DskS.n at *; omega
  unfold DskS.n
  clear h1 h2
  go_enter Tryz.func54, Tryz.ntmps54
  go_wp2_with fail
  go_ret
  exact ⟨ret_int (by omega), rfl⟩
/-- Whether a sector can be had: the error. -/
def readyC (d : DskS) (i : Int) : Int := if d.gone then 10 else if d.dead then 11 else if i < 0 ∨ (d.n : Int) ≤ i then 1 else 0
set_option maxHeartbeats 1000000 in
theorem ready_any {w0 w : World} {bd bp gh : Nat} {d : DskS} (i : Int) (h : DAt w0 w bd bp gh d) :
    Calls Tryz.prog 25 #[.pointer (some ⟨bd, 0, none⟩), .int .i64 i] w fun e w' => (∃ v, e = .returned v ∧ ErrIs w' v (readyC d i) 0) ∧ Q w w' := by
  have c0 := h.bp_cell
  have c3 := h.dead_cell
  have p0 := h.gone_cell
  have HS := Lib.hid (Sectors_dk h)
  have HF := Lib.hid dfault_any
  clear h
  unfold readyC
  go_enter Tryz.func25, Tryz.ntmps25
  cases hg : d.gone with
  | true =>
    rw [hg] at p0
    clear hg
    go_wp2_with fail
    refine (HF.out 10 _ (by decide)).mono ?_
    rintro e w1 ⟨⟨v, rfl, hv⟩, hq⟩
    go_wp2_with fail
    go_ret
    exact ⟨⟨v, rfl, hv⟩, hq⟩
  | false =>
    rw [hg] at p0
    clear hg
    cases hd : d.dead with
    | true =>
      rw [hd] at c3
      clear hd
      go_wp2_with fail
      refine (HF.out 11 _ (by decide)).mono ?_
      rintro e w1 ⟨⟨v, rfl, hv⟩, hq⟩
      go_wp2_with fail
      go_ret
      exact ⟨⟨v, rfl, hv⟩, hq⟩
    | false =>
      rw [hd] at c3
      clear hd
      by_cases hi : i < 0
      · have g1 : decide (i < 0) = true := decide_eq_true hi
        go_wp2_with fail
        refine (HF.out 1 _ (by decide)).mono ?_
        rintro e w1 ⟨⟨v, rfl, hv⟩, hq⟩
        go_wp2_with fail
        go_ret
        exact ⟨⟨v, rfl, by simpa [hi] using hv⟩, hq⟩
      · have g1 : decide (i < 0) = false := decide_eq_false hi
        by_cases hn : (d.n : Int) ≤ i
        · have g2 : decide ((d.n : Int) ≤ i) = true := decide_eq_true hn
          go_wp2_with fail
          refine HS.out.mono ?_
          rintro e w1 ⟨rfl, rfl⟩
          go_wp2_with fail
          refine (HF.out 1 _ (by decide)).mono ?_
          rintro e w1 ⟨⟨v, rfl, hv⟩, hq⟩
          go_wp2_with fail
          go_ret
          exact ⟨⟨v, rfl, by simpa [hn] using hv⟩, hq⟩
        · have g2 : decide ((d.n : Int) ≤ i) = false := decide_eq_false hn
          go_wp2_with fail
          refine HS.out.mono ?_
          rintro e w1 ⟨rfl, rfl⟩
          go_wp2_with fail
          go_ret
          exact ⟨⟨.nilIface, rfl, .inl ⟨by simp [hi, hn], rfl⟩⟩, Q.refl _⟩
/-- The power's block written anew. -/
theorem DAt.powset {w0 w w' : World} {bd bp gh : Nat} {d : DskS} (h : DAt w0 w bd bp gh d) (g : Bool) (f a : Int) (ha : -9223372036854775808 ≤ a ∧ a ≤ 9223372036854775807) (hf : -1 ≤ f ∧ f ≤ 9223372036854775807) (hgb : w.grownBy w' (some bp))
    (hh : w'.heap[bp]? = some (.cells #[.bool g, .int .i64 f, .int .i64 a] 96 (0, 0))) : DAt w0 w' bd bp gh { d with gone := g, fuse := f } ∧ K w0 [] w w' := by
  obtain ⟨wv, life, h1, h2⟩ := h.box
  obtain ⟨acts, h3, h4⟩ := h.pow
  have keep : ∀ {k : Nat} {cs : Array Value} {t : TypeId} {fz : Nat × Nat}, w.heap[k]? = some (.cells cs t fz) → t ≠ 96 → w'.heap[k]? = some (.cells cs t fz) := fun {k cs t fz} hk hd => by
    rw [hgb.block k (lt_of_heap hk) (fun e => by injection e with e; subst e; rw [h3] at hk; injection hk with hk; injection hk with _ e2 _; exact hd e2.symm)]; exact hk
  refine ⟨⟨⟨wv, life, keep h1 (by decide), h2.g hgb (fun k hk e => ?_)⟩, ⟨a, hh, ha⟩, keep h.mem (by decide), h.nd, h.np, h.nh, ⟨h.ok.len, h.ok.most, hf, h.ok.wait⟩⟩, K.gb hgb h.np (.inr (by rw [elemT_of h3]; decide))⟩
  injection e with e; subst e
  obtain ⟨_, _, cur, fz, hh2⟩ := h2.block hk
  rw [h3] at hh2
  injection hh2 with hh2
  injection hh2 with _ e2 _
  revert e2; decide
/-- What an act leaves. -/
def actD (d : DskS) : DskS := if d.fuse = 0 then { d with gone := true } else { d with fuse := if 0 < d.fuse then d.fuse - 1 else d.fuse }
theorem gb_two {w : World} {g i j : Nat} (u v : Value) : w.grownBy ((w.setCell ⟨g, i, none⟩ u).setCell ⟨g, j, none⟩ v) (some g) := gb_set (gb_setCell w g i u) j v
set_option maxHeartbeats 1000000 in
theorem act_any {w0 w : World} {bd bp gh : Nat} {d : DskS} (h : DAt w0 w bd bp gh d) :
    Calls Tryz.prog 27 #[.pointer (some ⟨bp, 0, none⟩)] w fun e w' => e = .returned (.bool (decide (d.fuse ≠ 0))) ∧ DAt w0 w' bd bp gh (actD d) ∧ K w0 [] w w' := by
  obtain ⟨acts, hp, ha⟩ := h.pow
  have p0 := h.gone_cell
  have p1 := h.fuse_cell
  have p2 : w.cell? ⟨bp, 2, none⟩ = some (.int .i64 acts) := by rw [cell_of_row _ _ _ _ _ _ hp]; rfl
  have f0 := frozen_of_row w bp 0 _ _ hp
  have f1 := frozen_of_row w bp 1 _ _ hp
  have f2 := frozen_of_row w bp 2 _ _ hp
  have hf := h.ok.fuse
  have HD := Lib.hid h
  have HP := Lib.hid hp
  unfold actD
  clear h hp
  go_enter Tryz.func27, Tryz.ntmps27
  by_cases h0 : d.fuse = 0
  · have g0 : (d.fuse == 0) = true := by simpa using h0
    have HH := Lib.hid (HD.out.powset true d.fuse acts ha hf (gb_setCell w bp 0 (.bool true)) (by rw [heap_setCell_any w bp 0 _ _ _ _ HP.out]; rfl))
    rw [if_pos h0, show decide (d.fuse ≠ 0) = false by simpa using h0]
    clear hf
    go_wp2_with fail
    go_ret
    exact ⟨rfl, HH.out.1, HH.out.2⟩
  · have g0 : (d.fuse == 0) = false := by simpa using h0
    rw [if_neg h0, show decide (d.fuse ≠ 0) = true by simpa using h0]
    obtain ⟨a2, ha2, hw⟩ : ∃ a2, (-9223372036854775808 ≤ a2 ∧ a2 ≤ 9223372036854775807) ∧ wrap64 (acts + 1) = a2 := ⟨_, by unfold wrap64; omega, rfl⟩
    by_cases h1 : 0 < d.fuse
    · have g1 : decide (0 < d.fuse) = true := decide_eq_true h1
      have HH := Lib.hid (HD.out.powset d.gone (d.fuse - 1) a2 ha2 (by omega) (gb_two (.int .i64 (d.fuse - 1)) (.int .i64 a2)) (by rw [heap_setCell_any _ bp 2 _ _ _ _ (heap_setCell_any w bp 1 _ _ _ _ HP.out)]; rfl))
      rw [if_pos h1]
      go_wp2_with fail
      go_ret
      exact ⟨rfl, HH.out.1, HH.out.2⟩
    · have g1 : decide (0 < d.fuse) = false := decide_eq_false h1
      have HH := Lib.hid (HD.out.powset d.gone d.fuse a2 ha2 hf (gb_setCell w bp 2 (.int .i64 a2)) (by rw [heap_setCell_any w bp 2 _ _ _ _ HP.out]; rfl))
      rw [if_neg h1]
      go_wp2_with fail
      go_ret
      exact ⟨rfl, HH.out.1, HH.out.2⟩
end Go.Proofs.YtcbepjepcabllaaGreatDoor
