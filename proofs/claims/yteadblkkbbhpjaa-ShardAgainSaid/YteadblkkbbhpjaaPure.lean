/- A region that draws its order: operations that read no memory may be taken first; what is left has a forced order. -/
import Derived.Test.YteadblkkbbhpjaaBase
import Derived.OrdersHeld
import Derived.StillTail
set_option linter.unusedVariables false
namespace Go.Proofs.Yteadblkkbbhpjaa
open Go Go.RowKit
def pureOp : Op → Bool
  | .move _ | .assign _ | .pick .. | .build .. | .load .. | .binOp .. | .unOp .. | .convert .. | .slice .. | .fieldAddr .. | .field .. | .indexAddr .. | .index .. | .extract .. => true
  | .call c => (match c.callee with | .builtin .len => true | _ => false)
  | _ => false
theorem pure_run {P : Program} {ρ : Operand → Value} {o : Oper} {w w' : World} {n : Next} (hp : pureOp o.op = true) (h : (execOp ρ o).run P w = .ok n w') : ∃ v, n = .value v := by
  have key : ∀ s : Sem Value, (do pure (Next.value (← s)) : Sem Next).run P w = .ok n w' → ∃ v, n = .value v := by
    intro s hs
    simp only [Sem.run_bind, Sem.run_pure] at hs
    cases hq : s.run P w with
    | ok x u => rw [hq] at hs; simp [Result.andThen] at hs; exact ⟨x, hs.1.symm⟩
    | halt x u => rw [hq] at hs; simp [Result.andThen] at hs
  obtain ⟨dst, op, type, pos, after, guard⟩ := o
  cases op <;> simp only [pureOp, Bool.false_eq_true] at hp <;> unfold execOp at h <;> simp only at h
  case move x => simp only [Sem.run_pure] at h; cases h; exact ⟨_, rfl⟩
  case assign x => simp only [Sem.run_pure] at h; cases h; exact ⟨_, rfl⟩
  case pick c a b =>
    simp only [Sem.run_bind, Sem.run_pure] at h
    cases hq : (asBool (ρ c)).run P w with
    | ok x u => rw [hq] at h; simp [Result.andThen] at h; exact ⟨_, h.1.symm⟩
    | halt x u => rw [hq] at h; simp [Result.andThen] at h
  case call c =>
    obtain ⟨ce, ar, ts⟩ := c
    cases ce with
    | builtin b =>
      cases b <;> simp only [Bool.false_eq_true] at hp
      simp only [resolve, invoke, Sem.run_bind, Sem.run_pure, Result.andThen, builtin] at h
      cases hq : (Builtin.len_ ts type (Array.map ρ ar)).run P w with
      | ok x u => rw [hq] at h; simp at h; exact ⟨_, h.1.symm⟩
      | halt x u => rw [hq] at h; simp at h
    | invoke x y => simp only [Bool.false_eq_true] at hp
    | value x => simp only [Bool.false_eq_true] at hp
  all_goals exact key _ h
def pureB (md : Region.Mode) (ops : Array Oper) : List Nat → Array Bool → Bool
  | [], _ => true
  | k :: r, ls => (match ops[k]? with | some o => pureOp o.op | none => false) && Region.free md ops ls k && (Region.ready md ops ls).contains k && pureB md ops r (ls.setIfInBounds k true)
def markB : List Nat → Array Bool → Array Bool
  | [], ls => ls
  | k :: r, ls => markB r (ls.setIfInBounds k true)
def tailB (md : Region.Mode) (ops : Array Oper) : List Nat → Array Bool → Bool
  | [], ls => (Region.ready md ops ls).isEmpty
  | k :: r, ls => decide (Region.ready md ops ls = [k]) && (ops[k]?).isSome && tailB md ops r (ls.setIfInBounds k true)
section
variable {P : Program} {ops : Array Oper} {R : Exit → Act → World → Prop}
theorem wpQuiet_mono {C : World → Prop} {K K' : Act → Prop} (hk : ∀ a, K a → K' a) (l : List Oper) : ∀ a, wpQuiet P ops C K l a → wpQuiet P ops C K' l a := by
  induction l with
  | nil => intro a h; exact hk a h
  | cons o r ih =>
    intro a h
    unfold wpQuiet at h ⊢
    split
    · next hw => rw [if_pos hw] at h; exact Oper.quiet_mono ih h
    · next hw => rw [if_neg hw] at h; exact ih _ h
theorem any_tail (tl : List Nat) : ∀ (ls : Array Bool) (a : Act) (w : World), tailB .any ops tl ls = true → wpList P ops R (tl.map (ops.getD · default)) a w → wpAnyH P .any ops R (fun _ => True) tl.length ls a w := by
  induction tl with
  | nil => intro ls a w hB h; exact ⟨by simpa [tailB] using hB, h⟩
  | cons k r ih =>
    intro ls a w hB h
    simp only [tailB, Bool.and_eq_true, decide_eq_true_eq] at hB
    refine wpAnyH_all hB.1.1 (by simp) fun i hi => ?_
    have e : i = k := by simpa using hi
    subst e
    obtain ⟨o, ho⟩ := Option.isSome_iff_exists.1 hB.1.2
    have hk : ops.getD i default = o := by simp [Array.getD_eq_getD_getElem?, ho]
    rw [List.map_cons, hk] at h
    have hw : wpOp P ops R i (wpList P ops R (r.map (ops.getD · default))) a w := by unfold wpOp; simp only [ho]; exact h
    exact wpOp_mono (fun a' w' h' => ⟨trivial, ih _ a' w' hB.2 h'⟩) hw
theorem any_head (hsel : Region.noSelect ops = true) (hQ : ∀ c a d v w, R (.panic c) (Act.put a d v) w → R (.panic c) a w) (f : Nat) (w : World) (hd : List Nat) : ∀ (ls : Array Bool) (a : Act), pureB .any ops hd ls = true →
    wpQuiet P ops (fun _ => True) (fun a' => wpAnyH P .any ops R (fun _ => True) f (markB hd ls) a' w) (hd.map (ops.getD · default)) a → wpAnyH P .any ops R (fun _ => True) (hd.length + f) ls a w := by
  induction hd with
  | nil => intro ls a hB h; rw [List.length_nil, Nat.zero_add]; exact h
  | cons k r ih =>
    intro ls a hB h
    simp only [pureB, Bool.and_eq_true] at hB
    cases ho : ops[k]? with
    | none => rw [ho] at hB; simp at hB
    | some o =>
      rw [ho] at hB
      have hk : ops.getD k default = o := by simp [Array.getD_eq_getD_getElem?, ho]
      rw [List.map_cons, hk] at h
      have h2 : if Region.wanted o (yielded ops a.tmps) then o.quiet P a (fun _ => True) (wpQuiet P ops (fun _ => True) (fun a' => wpAnyH P .any ops R (fun _ => True) f (markB (k :: r) ls) a' w) (r.map (ops.getD · default)))
        else wpQuiet P ops (fun _ => True) (fun a' => wpAnyH P .any ops R (fun _ => True) f (markB (k :: r) ls) a' w) (r.map (ops.getD · default)) (a.put o.dst undef) := h
      rw [List.length_cons, Nat.add_right_comm]
      split at h2
      · next hw =>
        obtain ⟨v, hv, hn⟩ := h2
        refine wpAnyH_take ho hsel hB.1.1.2 hB.1.2 (fun c a w => hQ c a _ _ w) (.inl ⟨hw, fun w' _ => ?_⟩) trivial (ih _ _ hB.2 hn)
        have h3 := hv w' trivial
        unfold Oper.quietAt at h3
        cases hr : (execOp a.eval o).run P w' with
        | halt x u => rw [hr] at h3; simp only [Oper.quietUpon] at h3
        | ok n u =>
          obtain ⟨x, rfl⟩ := pure_run hB.1.1.1 hr
          rw [hr] at h3
          simp only [Oper.quietUpon] at h3
          rw [h3.1, h3.2]
      · next hw =>
        exact wpAnyH_take ho hsel hB.1.1.2 hB.1.2 (fun c a w => hQ c a _ _ w) (.inr ⟨by simpa using hw, rfl⟩) trivial (ih _ _ hB.2 h2)
end
/-- Those of 'hd' are taken first, in that order; those of 'tl' come behind them, in that order. -/
theorem wp_region_pure {P : Program} {id : Nat} {R : Exit → Act → World → Prop} {a : Act} {w : World} {l : List Oper} (hd tl : List Nat) (hm : P.follows .mixedOrders = true)
    (hB : (Region.noSelect l.toArray && pureB .any l.toArray hd (Array.replicate l.length false) && tailB .any l.toArray tl (markB hd (Array.replicate l.length false)) && decide (hd.length + tl.length = l.length)) = true)
    (hQ : ∀ c a d v w, R (.panic c) (Act.put a d v) w → R (.panic c) a w)
    (h : wpQuiet P l.toArray (fun _ => True) (fun a' => wpList P l.toArray R (tl.map (l.toArray.getD · default)) a' w.drew) (hd.map (l.toArray.getD · default)) a) : (Code.region id l.toArray true).wp P R a w := by
  simp only [Bool.and_eq_true, decide_eq_true_eq] at hB
  obtain ⟨⟨⟨h1, h2⟩, h3⟩, h4⟩ := hB
  refine wp_region_held (S := fun _ => True) hm ?_
  have e : l.toArray.size = hd.length + tl.length := by simp [h4]
  rw [e]
  have e2 : Array.replicate (hd.length + tl.length) false = Array.replicate l.length false := by rw [h4]
  rw [e2]
  refine any_head h1 hQ tl.length _ hd _ a h2 ?_
  exact wpQuiet_mono (fun a' h' => any_tail tl _ a' _ h3 h') _ _ h
end Go.Proofs.Yteadblkkbbhpjaa
