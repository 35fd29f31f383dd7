/- Texts of this proof, laid into one: Flo, Frk, App, KbL. -/
import Derived.Test.YtlhhiiemojhjdaaDoorMp08
import Derived.Deep.RegionHeld3
import Derived.Deep.MidRow
/- A region that draws its order and holds one alloc that may come up at any time beside a chain of calls: v, e := f(g(..)). -/
set_option linter.unusedVariables false
namespace Go.Proofs.YtlhhiiemojhjdaaDoor
open Go Go.RowKit
section
variable {P : Program} {ops : Array Oper} {R : Exit → Act → World → Prop}
/-- An operation that does not look at z's slot does the same behind z. -/
theorem wpOp_set {j : Nat} {oz oj : Oper} {v : Value} (hj : ops[j]? = some oj) (hap : oz.apart ops oj = true) (hsj : ∀ cs b, oj.op ≠ .select cs b)
    (hQ : ∀ c a w, R (.panic c) a w → R (.panic c) (a.put oz.dst v) w) {K : Act → World → Prop} {a : Act} {w : World}
    (h : wpOp P ops R j K a w) : wpOp P ops R j (fun a' w' => ∃ a0, a' = Act.put a0 oz.dst v ∧ K a0 w') (a.put oz.dst v) w := by
  obtain ⟨h1, h2, h3⟩ := Oper.apart_spec hap
  unfold wpOp at *
  simp only [hj] at *
  rw [wanted_put oj a oz.dst v h1]
  split
  · rename_i hw
    simp only [hw, if_true] at h
    rcases h with h | ⟨hasks, hlets⟩
    case inr => exact .inr ⟨by unfold Oper.asks at *; rw [execOp_put oj hsj a oz.dst v h1]; exact hasks, hlets⟩
    refine .inl ?_
    unfold Oper.wp at *
    rw [execOp_put oj hsj a oz.dst v h1]
    generalize (execOp a.eval oj).run P w = r at *
    cases r with
    | ok n w' =>
      cases n <;> simp only [Oper.upon] at h ⊢
      case value u => exact ⟨_, Act.put_comm a v u h2, h⟩
      case skip => exact ⟨_, Act.put_comm a v undef h2, h⟩
      case defer d => exact ⟨_, by rw [Act.put_defers, Act.put_comm _ v undef h2], h⟩
      case enter f args =>
        refine Calls.mono h fun e w'' he => ?_
        cases e with
        | returned u => exact ⟨_, Act.put_comm a v u h2, he⟩
        | panicked c => exact hQ _ _ _ he
        | outgrown => exact he
      case row row args => exact Rows.mono h fun u w'' he => ⟨_, Act.put_comm a v u h2, he⟩
    | halt x w' =>
      cases x <;> simp only [Oper.upon] at h ⊢
      case panic u => exact hQ _ _ _ h
  · rename_i hw
    simp only [hw] at h
    exact ⟨_, Act.put_comm a v undef h2, h⟩
/-- A chain, each of whose members is shown in whatever world has grown from the one at hand; behind each some pure operations. -/
def wpCh (P : Program) (ops : Array Oper) (R : Exit → Act → World → Prop) (E : Act → World → Prop) : List (Oper × List Oper) → Act → World → Prop
  | [], a, w => E a w
  | (o, q) :: r, a, w => ∀ W, Q w W → ∀ K : Act → World → Prop, Hid (∀ a' w', Q W w' → wpQuiet P ops (fun _ => True) (fun a'' => wpCh P ops R E r a'' w') q a' → K a' w') → wpList P ops (Exit.then K R) [o] a W
/-- The end of it: the alloc's block stands somewhere. -/
def wpChE (P : Program) (ops : Array Oper) (R : Exit → Act → World → Prop) (N : Nat) (obj : Obj) (zd : Option Tmp) (zs : List Oper) (a : Act) (w : World) : Prop :=
  ∀ W b, Q w W → W.heap[b]? = some obj → N ≤ b → wpList P ops R zs (a.put zd (.pointer (some ⟨b, 0, none⟩))) W
theorem wpQuiet_set {T : World → Prop} {K : Act → Prop} {oz : Oper} {v : Value} (l : List Oper) : ∀ (a : Act), (∀ o ∈ l, oz.apart ops o = true) → (∀ o ∈ l, ∀ cs b, o.op ≠ .select cs b) →
    wpQuiet P ops T K l a → wpQuiet P ops T (fun a' => ∃ a0, a' = Act.put a0 oz.dst v ∧ K a0) l (a.put oz.dst v) := by
  induction l with
  | nil => intro a _ _ h; exact ⟨a, rfl, h⟩
  | cons o r ih =>
    intro a hap hse h
    obtain ⟨h1, h2, h3⟩ := Oper.apart_spec (hap o (by simp))
    have ihr := fun a h => ih a (fun o ho => hap o (List.mem_cons_of_mem _ ho)) (fun o ho => hse o (List.mem_cons_of_mem _ ho)) h
    unfold wpQuiet at h ⊢
    rw [wanted_put o a oz.dst v h1]
    split at h
    · next hw =>
      rw [if_pos hw]
      obtain ⟨x, hx, hn⟩ := h
      refine ⟨x, fun w hw => ?_, ?_⟩
      · have := hx w hw
        unfold Oper.quietAt at this ⊢
        rw [execOp_put o (hse o (by simp)) a oz.dst v h1]
        exact this
      · rw [Act.put_comm a v x h2]; exact ihr _ hn
    · next hw =>
      rw [if_neg hw, Act.put_comm a v undef h2]; exact ihr _ h
variable {w0 : World} {obj : Obj} {z : Nat} {oz : Oper} {zs : List Nat}
def opsL (ops : Array Oper) (tl : List (Nat × List Nat)) : List (Oper × List Oper) := tl.map fun p => (ops.getD p.1 default, p.2.map (ops.getD · default))
def lenC : List (Nat × List Nat) → Nat
  | [] => 0
  | (k, q) :: r => q.length + lenC r + 1
def sB (ops : Array Oper) (zs : List Nat) : List (Nat × List Nat) → Array Bool → Bool
  | [], ls => tailB .any ops zs ls && (Region.ready .any ops ls).all fun i => zs.contains i
  | (k, q) :: r, ls => decide (Region.ready .any ops ls = [k]) && (ops[k]?).isSome && pureB .any ops q (ls.setIfInBounds k true) && sB ops zs r (markB q (ls.setIfInBounds k true))
def apB (ops : Array Oper) (oz : Oper) (zs : List Nat) (tl : List (Nat × List Nat)) : Bool :=
  tl.all fun p => (p.1 :: p.2).all fun i => !zs.contains i && match ops[i]? with | some o => oz.apart ops o | none => false
theorem noSel_mem (hsel : Region.noSelect ops = true) {i : Nat} (h : (ops[i]?).isSome = true) : ∀ cs b, (ops.getD i default).op ≠ .select cs b := by
  obtain ⟨o, ho⟩ := Option.isSome_iff_exists.1 h
  have hk : ops.getD i default = o := by simp [Array.getD_eq_getD_getElem?, ho]
  rw [hk]; exact fun cs b => Region.noSelect_spec hsel i o cs b ho
theorem flo_B (hsel : Region.noSelect ops = true) (hQ1 : ∀ c a d v w, R (.panic c) (Act.put a d v) w → R (.panic c) a w) (hQ : ∀ c a d v w, R (.panic c) a w → R (.panic c) (Act.put a d v) w) (tl : List (Nat × List Nat)) : ∀ (ls : Array Bool) (a : Act) (w W : World) (b : Nat), ClosedL ops ls →
    apB ops oz zs tl = true → sB ops zs tl ls = true → Q w0 w → Q w W → W.heap[b]? = some obj → w0.heap.size ≤ b →
    wpCh P ops R (wpChE P ops R w0.heap.size obj oz.dst (zs.map (ops.getD · default))) (opsL ops tl) a w → wpAnyZ P ops R (fun w' => ∃ m : QW w0, w' = m.val) zs (lenC tl + zs.length) ls (a.put oz.dst (.pointer (some ⟨b, 0, none⟩))) W := by
  induction tl with
  | nil =>
    intro ls a w W b _ _ hB h0 hW hb hN h
    simp only [sB, Bool.and_eq_true] at hB
    have h1 := wpAny_of_held _ _ _ _ (any_tail zs ls _ W hB.1 (h W b hW hb hN))
    have e : lenC [] + zs.length = zs.length := by simp [lenC]
    rw [e]
    generalize zs.length = f at h1
    cases f with
    | zero => exact h1
    | succ f =>
      refine ⟨h1.1, fun i hi => wpOp_mono (fun a' w' h' => ?_) (h1.2 i hi)⟩
      rw [if_pos (by simpa using List.all_eq_true.1 hB.2 i hi)]
      exact h'
  | cons p r ih =>
    obtain ⟨k, q⟩ := p
    intro ls a w W b inv hap hB h0 hW hb hN h
    simp only [sB, Bool.and_eq_true, decide_eq_true_eq] at hB
    obtain ⟨⟨⟨b1, b2⟩, b3⟩, b4⟩ := hB
    have hap2 : apB ops oz zs r = true := by
      unfold apB at hap ⊢; rw [List.all_cons, Bool.and_eq_true] at hap; exact hap.2
    have hapk : ∀ i ∈ k :: q, i ∉ zs ∧ ∃ o, ops[i]? = some o ∧ oz.apart ops o = true := fun i hi => by
      unfold apB at hap; rw [List.all_cons, Bool.and_eq_true] at hap
      have := List.all_eq_true.1 hap.1 i hi
      simp only [Bool.and_eq_true] at this
      refine ⟨fun e => (by have := this.1; rw [List.contains_iff_mem.2 e] at this; cases this), ?_⟩
      cases ho : ops[i]? with
      | none => rw [ho] at this; exact absurd this.2 (by simp)
      | some o => rw [ho] at this; exact ⟨o, rfl, this.2⟩
    have e : lenC ((k, q) :: r) + zs.length = (q.length + (lenC r + zs.length)) + 1 := by simp [lenC]; omega
    rw [e]
    refine ⟨fun hn => (by rw [b1] at hn; cases hn), fun i hi => ?_⟩
    have hi' := hi
    rw [b1] at hi
    have e : i = k := by simpa using hi
    subst e
    obtain ⟨hizs, o, ho, hapo⟩ := hapk i (by simp)
    have hk : ops.getD i default = o := by simp [Array.getD_eq_getD_getElem?, ho]
    have h2 : wpCh P ops R (wpChE P ops R w0.heap.size obj oz.dst (zs.map (ops.getD · default))) ((o, q.map (ops.getD · default)) :: opsL ops r) a w := by
      have := h
      simp only [opsL, List.map_cons, hk] at this
      exact this
    have h1 : wpOp P ops R i (fun a' w' => Q W w' ∧ wpQuiet P ops (fun _ => True) (fun a'' => wpCh P ops R (wpChE P ops R w0.heap.size obj oz.dst (zs.map (ops.getD · default))) (opsL ops r) a'' w') (q.map (ops.getD · default)) a') a W :=
      wpOp_of_one ho (h2 W hW _ (fun a' w' hq h' => ⟨hq, h'⟩))
    refine wpOp_mono (fun a' w' h' => ?_) (wpOp_set (oz := oz) ho hapo (fun cs b => Region.noSelect_spec hsel i o cs b ho) (fun c a w => hQ c a _ _ w) h1)
    obtain ⟨a1, rfl, hq, hc⟩ := h'
    rw [if_neg hizs]
    have h0w : Q w0 w' := (h0.trans hW).trans hq
    refine ⟨⟨⟨w', h0w⟩, rfl⟩, ?_⟩
    refine headZ hsel hQ1 (T := fun _ => True) (fun _ _ => trivial) q (.inr fun _ => trivial) _ w' ⟨⟨w', h0w⟩, rfl⟩ _ _ (inv.set hi') (fun j hj => (hapk j (List.mem_cons_of_mem _ hj)).1) b3 ?_
    refine wpQuiet_mono (fun a'' h'' inv' => ?_) _ _ (wpQuiet_set (oz := oz) (v := .pointer (some ⟨b, 0, none⟩)) _ a1 (fun o ho => ?_) (fun o ho => ?_) hc)
    · obtain ⟨a2, rfl, h3⟩ := h''
      exact ih _ a2 w' w' b inv' hap2 b4 h0w (Q.refl _) (hq.block hb) hN h3
    · obtain ⟨j, hj, rfl⟩ := List.mem_map.1 ho
      obtain ⟨_, o2, ho2, hap3⟩ := hapk j (List.mem_cons_of_mem _ hj)
      have : ops.getD j default = o2 := by simp [Array.getD_eq_getD_getElem?, ho2]
      rw [this]; exact hap3
    · obtain ⟨j, hj, rfl⟩ := List.mem_map.1 ho
      obtain ⟨_, o2, ho2, _⟩ := hapk j (List.mem_cons_of_mem _ hj)
      exact noSel_mem hsel (by rw [ho2]; rfl)
def floB (ops : Array Oper) (z : Nat) (zs : List Nat) : List (Nat × List Nat) → Array Bool → Bool
  | [], ls => decide (Region.ready .any ops ls = [z]) && sB ops zs [] (ls.setIfInBounds z true)
  | (k, q) :: r, ls => (Region.ready .any ops ls).contains k && (Region.ready .any ops ls).contains z && (Region.ready .any ops ls).all (fun i => i == k || i == z) && sB ops zs ((k, q) :: r) (ls.setIfInBounds z true)
      && pureB .any ops q (ls.setIfInBounds k true) && floB ops z zs r (markB q (ls.setIfInBounds k true))
theorem flo_A (hsel : Region.noSelect ops = true) (hQ1 : ∀ c a d v w, R (.panic c) (Act.put a d v) w → R (.panic c) a w) (hQ : ∀ c a d v w, R (.panic c) a w → R (.panic c) (Act.put a d v) w) (hz : ops[z]? = some oz) (hgd : oz.guard = none) (hzz : z ∉ zs)
    (hrun : ∀ (ρ : Operand → Value) (W : World), (execOp ρ oz).run P W = .ok (.value (.pointer (some ⟨W.heap.size, 0, none⟩))) (W.alloc obj)) (tl : List (Nat × List Nat)) : ∀ (ls : Array Bool) (a : Act) (w : World), ClosedL ops ls →
    apB ops oz zs tl = true → floB ops z zs tl ls = true → Q w0 w →
    wpCh P ops R (wpChE P ops R w0.heap.size obj oz.dst (zs.map (ops.getD · default))) (opsL ops tl) a w → wpAnyZ P ops R (fun w' => ∃ m : QW w0, w' = m.val) zs (lenC tl + 1 + zs.length) ls a w := by
  have hzop : ∀ (K : Act → World → Prop) (a : Act) (W : World), K (a.put oz.dst (.pointer (some ⟨W.heap.size, 0, none⟩))) (W.alloc obj) → wpOp P ops R z K a W := by
    intro K a W h
    unfold wpOp
    simp only [hz]
    have hw : Region.wanted oz (yielded ops a.tmps) = true := by simp [Region.wanted, hgd]
    simp only [hw, if_true, Oper.wp, hrun, Oper.upon]
    exact .inl h
  have hzdo : ∀ (tl : List (Nat × List Nat)) (ls : Array Bool) (a : Act) (w : World), ClosedL ops ls → z ∈ Region.ready .any ops ls → apB ops oz zs tl = true → sB ops zs tl (ls.setIfInBounds z true) = true → Q w0 w →
      wpCh P ops R (wpChE P ops R w0.heap.size obj oz.dst (zs.map (ops.getD · default))) (opsL ops tl) a w →
      wpOp P ops R z (fun a' w' => if z ∈ zs then wpAny P .any ops R (lenC tl + zs.length) (ls.setIfInBounds z true) a' w' else (fun w' => ∃ m : QW w0, w' = m.val) w' ∧ wpAnyZ P ops R (fun w' => ∃ m : QW w0, w' = m.val) zs (lenC tl + zs.length) (ls.setIfInBounds z true) a' w') a w := by
    intro tl ls a w inv hzr hap hB h0 h
    refine hzop _ _ _ ?_
    rw [if_neg hzz]
    have hq : Q w (w.alloc obj) := (Q.refl w).alloc _
    exact ⟨⟨⟨_, h0.trans hq⟩, rfl⟩, flo_B hsel hQ1 hQ tl (ls.setIfInBounds z true) a w (w.alloc obj) w.heap.size (inv.set hzr) hap hB h0 hq (MapKept.heap_alloc w _).1 h0.size h⟩
  induction tl with
  | nil =>
    intro ls a w inv hap hB h0 h
    simp only [floB, Bool.and_eq_true, decide_eq_true_eq] at hB
    have e : lenC [] + 1 + zs.length = lenC [] + zs.length + 1 := by omega
    rw [e]
    refine ⟨fun hn => (by rw [hB.1] at hn; cases hn), fun i hi => ?_⟩
    have hi' := hi
    rw [hB.1] at hi
    have e : i = z := by simpa using hi
    subst e
    exact hzdo [] ls a w inv hi' hap hB.2 h0 h
  | cons p r ih =>
    obtain ⟨k, q⟩ := p
    intro ls a w inv hap hB h0 h
    simp only [floB, Bool.and_eq_true] at hB
    obtain ⟨⟨⟨⟨⟨b1, b1z⟩, b2⟩, b4⟩, b5⟩, b7⟩ := hB
    have hap2 : apB ops oz zs r = true := by
      unfold apB at hap ⊢; rw [List.all_cons, Bool.and_eq_true] at hap; exact hap.2
    have hapk : ∀ i ∈ k :: q, i ∉ zs ∧ ∃ o, ops[i]? = some o ∧ oz.apart ops o = true := fun i hi => by
      unfold apB at hap; rw [List.all_cons, Bool.and_eq_true] at hap
      have := List.all_eq_true.1 hap.1 i hi
      simp only [Bool.and_eq_true] at this
      refine ⟨fun e => (by have := this.1; rw [List.contains_iff_mem.2 e] at this; cases this), ?_⟩
      cases ho : ops[i]? with
      | none => rw [ho] at this; exact absurd this.2 (by simp)
      | some o => rw [ho] at this; exact ⟨o, rfl, this.2⟩
    have hne : k ∈ Region.ready .any ops ls := by simpa using b1
    have hze : z ∈ Region.ready .any ops ls := by simpa using b1z
    have e1 : lenC ((k, q) :: r) + 1 + zs.length = (lenC ((k, q) :: r) + zs.length) + 1 := by omega
    rw [e1]
    refine ⟨fun hn => (by rw [hn] at hne; cases hne), fun i hi => ?_⟩
    have hik : i = k ∨ i = z := by simpa using List.all_eq_true.1 b2 i hi
    by_cases hiz : i = z
    · subst hiz
      exact hzdo ((k, q) :: r) ls a w inv hi hap b4 h0 h
    · have e : i = k := hik.resolve_right hiz
      subst e
      obtain ⟨hizs, o, ho, _⟩ := hapk i (by simp)
      have hk : ops.getD i default = o := by simp [Array.getD_eq_getD_getElem?, ho]
      have h2 : wpCh P ops R (wpChE P ops R w0.heap.size obj oz.dst (zs.map (ops.getD · default))) ((o, q.map (ops.getD · default)) :: opsL ops r) a w := by
        have := h
        simp only [opsL, List.map_cons, hk] at this
        exact this
      refine wpOp_of_one ho (h2 w (Q.refl _) _ (fun a' w' hq h' => ?_))
      rw [if_neg hizs]
      have h0w : Q w0 w' := h0.trans hq
      refine ⟨⟨⟨w', h0w⟩, rfl⟩, ?_⟩
      have e3 : lenC ((i, q) :: r) + zs.length = q.length + (lenC r + 1 + zs.length) := by simp [lenC]; omega
      rw [e3]
      refine headZ hsel hQ1 (T := fun _ => True) (fun _ _ => trivial) q (.inr fun _ => trivial) _ w' ⟨⟨w', h0w⟩, rfl⟩ _ _ (inv.set hi) (fun j hj => (hapk j (List.mem_cons_of_mem _ hj)).1) b5 ?_
      exact wpQuiet_mono (fun a'' h'' inv' => ih _ a'' w' inv' hap2 b7 h0w h'') _ _ h'
/-- Each is waited for by one behind it, or by y. -/
def sinkR (ops : Array Oper) (y : Nat) : List Nat → Bool
  | [] => true
  | i :: r => (r ++ [y]).any (fun j => Region.waitsFor .any ops j i) && sinkR ops y r
theorem sinkR_all {y : Nat} {ls : Array Bool} (inv : ClosedL ops ls) (hy : y ∈ Region.ready .any ops ls) (qs : List Nat) : (∀ i ∈ qs, i < ops.size) → sinkR ops y qs = true → ∀ i ∈ qs, ls.getD i true = true := by
  induction qs with
  | nil => intro _ _ i hi; cases hi
  | cons a r ih =>
    intro hsz hs i hi
    simp only [sinkR, Bool.and_eq_true] at hs
    have ihr := ih (fun i hi => hsz i (List.mem_cons_of_mem _ hi)) hs.2
    rcases List.mem_cons.1 hi with e | e
    · subst e
      obtain ⟨j, hj, hj2⟩ := List.any_eq_true.1 hs.1
      obtain ⟨oj, hoj, e, he, hb, hon⟩ := Region.waitsFor_spec hj2
      cases hun : ls.getD i true with
      | true => rfl
      | false =>
        exfalso
        rcases List.mem_append.1 hj with hjr | hjy
        · have hjl : ls.getD j false = true := by
            have h1 := ihr j hjr
            have hjs : j < ls.size := by rw [inv.size]; exact hsz j (List.mem_cons_of_mem _ hjr)
            simpa [hjs] using h1
          have h2 := inv.closed j oj hoj hjl e he hb
          rw [hon, getD_both hun] at h2
          cases h2
        · have : j = y := by simpa using hjy
          subst this
          obtain ⟨_, oz, hoz, hall⟩ := mem_ready.1 hy
          have : oj = oz := Option.some.inj (hoj.symm.trans hoz)
          subst this
          have h2 := hall e he hb
          rw [hon, getD_both hun] at h2
          cases h2
    · exact ihr i e
end
def chIdx (tl : List (Nat × List Nat)) : List Nat := tl.flatMap fun p => p.1 :: p.2
/-- hd: reads, taken first; tl: a chain (calls, mostly), behind each of its members some pure operations; z: the alloc, which may come up beside any of them; zs: the end. ws: per member of the end, a chain of waiting in which the reads stand. -/
theorem wp_flo {P : Program} {id : Nat} {R : Exit → Act → World → Prop} {a : Act} {w : World} {l : List Oper} (hd : List Nat) (tl : List (Nat × List Nat)) (z : Nat) (zs : List Nat) (ws : List (List Nat)) (obj : Obj) (hm : P.follows .mixedOrders = true)
    (hB : (Region.noSelect l.toArray && pureB .any l.toArray hd (Array.replicate l.length false) && floB l.toArray z zs tl (markB hd (Array.replicate l.length false)) && decide (hd.length + (lenC tl + 1 + zs.length) = l.length)
      && hd.all (fun i => !zs.contains i) && !zs.contains z && ((l.getD z default).guard).isNone && decide (z < l.length) && apB l.toArray (l.getD z default) zs tl
      && (zs.zip ws).all (fun p => sinkR l.toArray p.1 p.2 && p.2.all (fun i => decide (i < l.length)) && hd.all fun i => p.2.contains i) && decide (zs.length = ws.length)) = true)
    (hrun : ∀ (ρ : Operand → Value) (W : World), (execOp ρ (l.getD z default)).run P W = .ok (.value (.pointer (some ⟨W.heap.size, 0, none⟩))) (W.alloc obj))
    (h : wpQuiet P l.toArray (fun w' => ∃ m : QW w.drew, w' = m.val) (fun a' => wpCh P l.toArray (NoPanic R) (wpChE P l.toArray (NoPanic R) w.drew.heap.size obj (l.getD z default).dst (zs.map (l.toArray.getD · default))) (opsL l.toArray tl) a' w.drew) (hd.map (l.toArray.getD · default)) a) : (Code.region id l.toArray true).wp P R a w := by
  refine wp_region_noPanic ?_
  simp only [Bool.and_eq_true, decide_eq_true_eq] at hB
  obtain ⟨⟨⟨⟨⟨⟨⟨⟨⟨⟨h1, h2⟩, h3⟩, h4⟩, h5⟩, h6⟩, h7⟩, h8⟩, h9⟩, h10⟩, h11⟩ := hB
  have hn := not_mem_of h5
  have hQ1 : ∀ c a d v w, NoPanic R (.panic c) (Act.put a d v) w → NoPanic R (.panic c) a w := fun _ _ _ _ _ h => h
  have hQ2 : ∀ c a d v w, NoPanic R (.panic c) a w → NoPanic R (.panic c) (Act.put a d v) w := fun _ _ _ _ _ h => h
  have hzs : ∀ i ∈ hd, ∀ ls, ClosedL l.toArray ls → ls.getD i true = false → ∀ y ∈ zs, y ∉ Region.ready .any l.toArray ls := fun i hi ls inv hun y hy hr => by
    obtain ⟨n, hn, rfl⟩ := List.getElem_of_mem hy
    have hn2 : n < ws.length := by omega
    have g := List.all_eq_true.1 h10 (zs[n], ws[n]) (by
      rw [show (zs[n], ws[n]) = (zs.zip ws)[n]'(by rw [List.length_zip]; omega) by simp]
      exact List.getElem_mem _)
    simp only [Bool.and_eq_true] at g
    have hiw : i ∈ ws[n] := by simpa using List.all_eq_true.1 g.2 i hi
    have := sinkR_all inv hr ws[n] (fun j hj => by have := List.all_eq_true.1 g.1.2 j hj; simpa using this) g.1.1 i hiw
    rw [hun] at this; cases this
  have inv0 : ClosedL l.toArray (Array.replicate l.length false) := ⟨by simp, fun j oj hj hl => by
      rw [Array.getD_eq_getD_getElem?] at hl
      by_cases hjl : j < l.length
      · simp [hjl] at hl
      · simp [hjl] at hl⟩
  have hoz : l.toArray[z]? = some (l.getD z default) := by simp [List.getD_eq_getElem?_getD, h8]
  refine wp_region_any hm (wpAny_of_Z (S := fun w' => ∃ m : QW w.drew, w' = m.val) (zs := zs) _ _ _ _ ?_)
  have := headZ (zs := zs) (S := fun w' => ∃ m : QW w.drew, w' = m.val) (T := fun w' => ∃ m : QW w.drew, w' = m.val) h1 hQ1 (fun _ h => h) hd (.inl hzs) (lenC tl + 1 + zs.length) w.drew ⟨⟨w.drew, Q.refl _⟩, rfl⟩ _ a inv0 (fun i hi => hn i hi) h2
    (wpQuiet_mono (fun a' h' inv' => flo_A h1 hQ1 hQ2 hoz (by simpa using h7) (fun e => by rw [List.contains_iff_mem.2 e] at h6; cases h6) hrun tl _ a' w.drew inv' h9 h3 (Q.refl _) h') _ _ h)
  rw [h4] at this
  exact this
end Go.Proofs.YtlhhiiemojhjdaaDoor
/- A region that draws its order, where two operations may come in either order: both are walked. -/
set_option linter.unusedVariables false
namespace Go.Proofs.YtlhhiiemojhjdaaDoor
open Go Go.RowKit
section
variable {P : Program} {ops : Array Oper} {R : Exit → Act → World → Prop} {S : World → Prop}
def forkB (ops : Array Oper) (x y : Nat) (ls : Array Bool) : Bool :=
  decide (Region.ready .any ops ls = [x, y]) && (ops[x]?).isSome && (ops[y]?).isSome && decide (x ≠ y) && forcedB ops [y] (ls.setIfInBounds x true) && forcedB ops [x] (ls.setIfInBounds y true)
theorem any_fork (f x y : Nat) (ls : Array Bool) (a : Act) (w : World) (E : Act → World → Prop) (hS : S w) (hB : forkB ops x y ls = true) (hE : ∀ a w, S w → E a w → wpAnyH P .any ops R S f (markB [x, y] ls) a w)
    (h1 : wpListK P ops R S E ([x, y].map (ops.getD · default)) a w) (h2 : wpListK P ops R S E ([y, x].map (ops.getD · default)) a w) : wpAnyH P .any ops R S (2 + f) ls a w := by
  simp only [forkB, Bool.and_eq_true, decide_eq_true_eq] at hB
  obtain ⟨⟨⟨⟨⟨hr, hx⟩, hy⟩, hne⟩, hB1⟩, hB2⟩ := hB
  rw [show 2 + f = (1 + f) + 1 by omega]
  refine wpAnyH_all hr (by simp) fun i hi => ?_
  have hi : i = x ∨ i = y := by simpa using hi
  rcases hi with rfl | rfl
  · obtain ⟨o, ho⟩ := Option.isSome_iff_exists.1 hx
    have hk : ops.getD i default = o := by simp [Array.getD_eq_getD_getElem?, ho]
    rw [List.map_cons, hk] at h1
    exact wpOp_of_one ho (h1 _ (fun a' w' hs h' => ⟨hs, any_chain f [y] _ a' w' E hs hB1 hE h'⟩))
  · obtain ⟨o, ho⟩ := Option.isSome_iff_exists.1 hy
    have hk : ops.getD i default = o := by simp [Array.getD_eq_getD_getElem?, ho]
    rw [List.map_cons, hk] at h2
    refine wpOp_of_one ho (h2 _ (fun a' w' hs h' => ⟨hs, any_chain f [x] _ a' w' E hs hB2 (fun a w hs he => ?_) h'⟩))
    have e : markB [x] (ls.setIfInBounds i true) = markB [x, i] ls := by
      show (ls.setIfInBounds i true).setIfInBounds x true = (ls.setIfInBounds x true).setIfInBounds i true
      rw [Array.setIfInBounds_comm _ _ (Ne.symm hne)]
    rw [e]
    exact hE a w hs he
end
/-- First reads, then x and y in either order, then the rest in stages. -/
theorem wp_fork {P : Program} {id : Nat} {R : Exit → Act → World → Prop} {a : Act} {w : World} {l : List Oper} (hd : List Nat) (x y : Nat) (ps : List (List Nat × List Nat)) (hm : P.follows .mixedOrders = true)
    (hB : (Region.noSelect l.toArray && pureB .any l.toArray hd (Array.replicate l.length false) && forkB l.toArray x y (markB hd (Array.replicate l.length false)) && planB l.toArray ps (markB [x, y] (markB hd (Array.replicate l.length false))) && decide (hd.length + (2 + planN ps) = l.length)) = true)
    (hQ : ∀ c a d v w, R (.panic c) (Act.put a d v) w → R (.panic c) a w)
    (h : wpQuiet P l.toArray (fun w' => ∃ m : QW w, w' = m.val) (fun a' => wpListK P l.toArray R (fun w' => ∃ m : QW w, w' = m.val) (wpPlan P l.toArray R (fun w' => ∃ m : QW w, w' = m.val) ps) ([x, y].map (l.toArray.getD · default)) a' w.drew ∧
      wpListK P l.toArray R (fun w' => ∃ m : QW w, w' = m.val) (wpPlan P l.toArray R (fun w' => ∃ m : QW w, w' = m.val) ps) ([y, x].map (l.toArray.getD · default)) a' w.drew) (hd.map (l.toArray.getD · default)) a) : (Code.region id l.toArray true).wp P R a w := by
  simp only [Bool.and_eq_true, decide_eq_true_eq] at hB
  obtain ⟨⟨⟨⟨h1, h2⟩, h3⟩, h4⟩, h5⟩ := hB
  refine wp_region_held (S := fun w' => ∃ m : QW w, w' = m.val) hm ?_
  have := any_headS (S := fun w' => ∃ m : QW w, w' = m.val) h1 hQ (2 + planN ps) w.drew ⟨⟨w.drew, (Q.refl w).drew⟩, rfl⟩ hd (Array.replicate l.length false) a h2 (wpQuiet_mono (fun a' h' =>
    any_fork (planN ps) x y _ a' w.drew _ ⟨⟨w.drew, (Q.refl w).drew⟩, rfl⟩ h3 (fun a w hs he => any_plan h1 hQ ps _ a w hs h4 he) h'.1 h'.2) _ _ h)
  rw [h5] at this
  exact this
end Go.Proofs.YtlhhiiemojhjdaaDoor
/- A region that draws its order: reads first; then x and y in either order (a call and an alloc); then a forced middle (an append), pure operations, and at the end u and v in either order (two stores): x.F = append(x.F, f(..)). -/
set_option linter.unusedVariables false
namespace Go.Proofs.YtlhhiiemojhjdaaDoor
open Go Go.RowKit
section
variable {P : Program} {ops : Array Oper} {R : Exit → Act → World → Prop} {S : World → Prop}
theorem forkZ {zs : List Nat} (f x y : Nat) (ls : Array Bool) (a : Act) (w : World) (E : Act → World → Prop) (hS : S w) (inv : ClosedL ops ls) (hx : x ∉ zs) (hy : y ∉ zs) (hB : forkB ops x y ls = true)
    (hE : ∀ a w, S w → ClosedL ops (markB [x, y] ls) → E a w → wpAnyZ P ops R S zs f (markB [x, y] ls) a w)
    (h1 : wpListK P ops R S E ([x, y].map (ops.getD · default)) a w) (h2 : wpListK P ops R S E ([y, x].map (ops.getD · default)) a w) : wpAnyZ P ops R S zs (2 + f) ls a w := by
  simp only [forkB, Bool.and_eq_true, decide_eq_true_eq] at hB
  obtain ⟨⟨⟨⟨⟨hr, hx2⟩, hy2⟩, hne⟩, hB1⟩, hB2⟩ := hB
  rw [show 2 + f = (1 + f) + 1 by omega]
  refine ⟨fun h0 => (by rw [hr] at h0; cases h0), fun i hi => ?_⟩
  have hi' := hi
  rw [hr] at hi
  have hi : i = x ∨ i = y := by simpa using hi
  rcases hi with rfl | rfl
  · obtain ⟨o, ho⟩ := Option.isSome_iff_exists.1 hx2
    have hk : ops.getD i default = o := by simp [Array.getD_eq_getD_getElem?, ho]
    rw [List.map_cons, hk] at h1
    refine wpOp_of_one ho (h1 _ (fun a' w' hs h' => ?_))
    rw [if_neg hx]
    refine ⟨hs, chainZ f [y] _ a' w' E hs (inv.set hi') (fun j hj => by simp at hj; rw [hj]; exact hy) hB1 hE h'⟩
  · obtain ⟨o, ho⟩ := Option.isSome_iff_exists.1 hy2
    have hk : ops.getD i default = o := by simp [Array.getD_eq_getD_getElem?, ho]
    rw [List.map_cons, hk] at h2
    refine wpOp_of_one ho (h2 _ (fun a' w' hs h' => ?_))
    rw [if_neg hy]
    refine ⟨hs, chainZ f [x] _ a' w' E hs (inv.set hi') (fun j hj => by simp at hj; rw [hj]; exact hx) hB2 (fun a w hs hc he => ?_) h'⟩
    have e : markB [x] (ls.setIfInBounds i true) = markB [x, i] ls := by
      show (ls.setIfInBounds i true).setIfInBounds x true = (ls.setIfInBounds x true).setIfInBounds i true
      rw [Array.setIfInBounds_comm _ _ (Ne.symm hne)]
    rw [e] at hc ⊢
    exact hE a w hs hc he
/-- The end: u and v, in either order. -/
theorem endZ {zs : List Nat} (u v : Nat) (ls : Array Bool) (a : Act) (w : World) (hu : u ∈ zs) (hv : v ∈ zs) (hB : forkB ops u v ls = true) (hend : Region.ready .any ops (markB [u, v] ls) = [])
    (h1 : wpListK P ops R (fun _ => True) (fun a w => R .normal a w) ([u, v].map (ops.getD · default)) a w) (h2 : wpListK P ops R (fun _ => True) (fun a w => R .normal a w) ([v, u].map (ops.getD · default)) a w) : wpAnyZ P ops R S zs 2 ls a w := by
  simp only [forkB, Bool.and_eq_true, decide_eq_true_eq] at hB
  obtain ⟨⟨⟨⟨⟨hr, hu2⟩, hv2⟩, hne⟩, hB1⟩, hB2⟩ := hB
  simp only [forcedB, Bool.and_eq_true, decide_eq_true_eq] at hB1 hB2
  refine ⟨fun h0 => (by rw [hr] at h0; cases h0), fun i hi => ?_⟩
  rw [hr] at hi
  have hi : i = u ∨ i = v := by simpa using hi
  obtain ⟨ou, hou⟩ := Option.isSome_iff_exists.1 hu2
  obtain ⟨ov, hov⟩ := Option.isSome_iff_exists.1 hv2
  have hku : ops.getD u default = ou := by simp [Array.getD_eq_getD_getElem?, hou]
  have hkv : ops.getD v default = ov := by simp [Array.getD_eq_getD_getElem?, hov]
  simp only [List.map_cons, List.map_nil, hku, hkv] at h1 h2
  rcases hi with rfl | rfl
  · refine wpOp_of_one hou (h1 _ (fun a' w' _ h' => ?_))
    rw [if_pos hu]
    refine ⟨fun h0 => (by rw [hB1.1.1] at h0; cases h0), fun j hj => ?_⟩
    rw [hB1.1.1] at hj
    have e : j = v := by simpa using hj
    subst e
    exact wpOp_of_one hov (h' _ (fun a'' w'' _ h'' => ⟨hend, h''⟩))
  · refine wpOp_of_one hov (h2 _ (fun a' w' _ h' => ?_))
    rw [if_pos hv]
    refine ⟨fun h0 => (by rw [hB2.1.1] at h0; cases h0), fun j hj => ?_⟩
    rw [hB2.1.1] at hj
    have e : j = u := by simpa using hj
    subst e
    refine wpOp_of_one hou (h' _ (fun a'' w'' _ h'' => ⟨?_, h''⟩))
    have e : (ls.setIfInBounds i true).setIfInBounds j true = markB [j, i] ls := by
      show _ = (ls.setIfInBounds j true).setIfInBounds i true
      rw [Array.setIfInBounds_comm _ _ (Ne.symm hne)]
    rw [e]; exact hend
end
def wpAppE (P : Program) (ops : Array Oper) (R : Exit → Act → World → Prop) (S : World → Prop) (mid pp : List Nat) (u v : Nat) (a : Act) (w : World) : Prop :=
  wpListK P ops R S (fun a w => wpQuiet P ops (fun _ => True) (fun a => wpListK P ops R (fun _ => True) (fun a w => R .normal a w) ([u, v].map (ops.getD · default)) a w ∧ wpListK P ops R (fun _ => True) (fun a w => R .normal a w) ([v, u].map (ops.getD · default)) a w) (pp.map (ops.getD · default)) a) (mid.map (ops.getD · default)) a w
theorem wp_app {P : Program} {id : Nat} {R : Exit → Act → World → Prop} {a : Act} {w : World} {l : List Oper} (S : World → Prop) (hd : List Nat) (x y : Nat) (mid pp : List Nat) (u v : Nat) (hm : P.follows .mixedOrders = true)
    (hB : (Region.noSelect l.toArray && pureB .any l.toArray hd (Array.replicate l.length false) && forkB l.toArray x y (markB hd (Array.replicate l.length false)) && forcedB l.toArray mid (markB [x, y] (markB hd (Array.replicate l.length false)))
      && pureB .any l.toArray pp (markB mid (markB [x, y] (markB hd (Array.replicate l.length false)))) && forkB l.toArray u v (markB pp (markB mid (markB [x, y] (markB hd (Array.replicate l.length false)))))
      && decide (Region.ready .any l.toArray (markB [u, v] (markB pp (markB mid (markB [x, y] (markB hd (Array.replicate l.length false)))))) = []) && decide (hd.length + (2 + (mid.length + (pp.length + 2))) = l.length)
      && (x :: y :: hd ++ mid ++ pp).all (fun i => ![u, v].contains i) && [u, v].all (fun z => sinkR l.toArray z hd) && hd.all (fun i => decide (i < l.length))) = true)
    (hQ : ∀ c a d v w, R (.panic c) (Act.put a d v) w → R (.panic c) a w) (hS : S w.drew)
    (h : wpQuiet P l.toArray S (fun a' => wpListK P l.toArray R S (wpAppE P l.toArray R S mid pp u v) ([x, y].map (l.toArray.getD · default)) a' w.drew ∧ wpListK P l.toArray R S (wpAppE P l.toArray R S mid pp u v) ([y, x].map (l.toArray.getD · default)) a' w.drew) (hd.map (l.toArray.getD · default)) a) : (Code.region id l.toArray true).wp P R a w := by
  simp only [Bool.and_eq_true, decide_eq_true_eq] at hB
  obtain ⟨⟨⟨⟨⟨⟨⟨⟨⟨⟨h1, h2⟩, h3⟩, h4⟩, h5⟩, h6⟩, h7⟩, h8⟩, h9⟩, h10⟩, h11⟩ := hB
  have hn := not_mem_of h9
  have hzs : ∀ i ∈ hd, ∀ ls, ClosedL l.toArray ls → ls.getD i true = false → ∀ z ∈ [u, v], z ∉ Region.ready .any l.toArray ls := fun i hi ls inv hun z hz hr => by
    have g := List.all_eq_true.1 h10 z hz
    have := sinkR_all inv hr hd (fun j hj => by have := List.all_eq_true.1 h11 j hj; simpa using this) g i hi
    rw [hun] at this; cases this
  have inv0 : ClosedL l.toArray (Array.replicate l.length false) := ⟨by simp, fun j oj hj hl => by
      rw [Array.getD_eq_getD_getElem?] at hl
      by_cases hjl : j < l.length
      · simp [hjl] at hl
      · simp [hjl] at hl⟩
  refine wp_region_any hm (wpAny_of_Z (S := S) (zs := [u, v]) _ _ _ _ ?_)
  have := headZ (zs := [u, v]) (S := S) (T := S) h1 hQ (fun _ h => h) hd (.inl hzs) (2 + (mid.length + (pp.length + 2))) w.drew hS _ a inv0 (fun i hi => hn i (by simp [hi])) h2
    (wpQuiet_mono (fun a' h' inv' => forkZ _ x y _ a' w.drew _ hS inv' (hn x (by simp)) (hn y (by simp)) h3 (fun a w hs inv2 he =>
      chainZ _ mid _ a w _ hs inv2 (fun i hi => hn i (by simp [hi])) h4 (fun a w hs inv3 he =>
        headZ (T := fun _ => True) h1 hQ (fun _ _ => trivial) pp (.inr fun _ => trivial) 2 w hs _ a inv3 (fun i hi => hn i (by simp [hi])) h5 (wpQuiet_mono (fun a h inv4 => endZ u v _ a w (by simp) (by simp) h6 h7 h.1 h.2) _ _ he)) he) h'.1 h'.2) _ _ h)
  rw [h8] at this
  exact this
def SWA (S : World → Prop) := {w : World // S w}
theorem put_panic {P : Program} {fn : Func} {Q : Ending → World → Prop} (c : List PanicEntry) (a : Act) (d : Option Tmp) (v : Value) (w : World) (h : bodyPost P fn Q (.panic c) (Act.put a d v) w) : bodyPost P fn Q (.panic c) a w := by
  cases d <;> exact h
/-- wp_app, of whatever worlds. -/
theorem wp_app_S {P : Program} {id : Nat} {R : Exit → Act → World → Prop} {a : Act} {w : World} {l : List Oper} (S : World → Prop) (hd : List Nat) (x y : Nat) (mid pp : List Nat) (u v : Nat) (hm : P.follows .mixedOrders = true)
    (hB : (Region.noSelect l.toArray && pureB .any l.toArray hd (Array.replicate l.length false) && forkB l.toArray x y (markB hd (Array.replicate l.length false)) && forcedB l.toArray mid (markB [x, y] (markB hd (Array.replicate l.length false)))
      && pureB .any l.toArray pp (markB mid (markB [x, y] (markB hd (Array.replicate l.length false)))) && forkB l.toArray u v (markB pp (markB mid (markB [x, y] (markB hd (Array.replicate l.length false)))))
      && decide (Region.ready .any l.toArray (markB [u, v] (markB pp (markB mid (markB [x, y] (markB hd (Array.replicate l.length false)))))) = []) && decide (hd.length + (2 + (mid.length + (pp.length + 2))) = l.length)
      && (x :: y :: hd ++ mid ++ pp).all (fun i => ![u, v].contains i) && [u, v].all (fun z => sinkR l.toArray z hd) && hd.all (fun i => decide (i < l.length))) = true)
    (hQ : ∀ c a d v w, R (.panic c) (Act.put a d v) w → R (.panic c) a w) (hS : S w.drew)
    (h : wpQuiet P l.toArray (fun w' => ∃ m : SWA S, w' = m.val) (fun a' => wpListK P l.toArray R (fun w' => ∃ m : SWA S, w' = m.val) (wpAppE P l.toArray R (fun w' => ∃ m : SWA S, w' = m.val) mid pp u v) ([x, y].map (l.toArray.getD · default)) a' w.drew ∧
      wpListK P l.toArray R (fun w' => ∃ m : SWA S, w' = m.val) (wpAppE P l.toArray R (fun w' => ∃ m : SWA S, w' = m.val) mid pp u v) ([y, x].map (l.toArray.getD · default)) a' w.drew) (hd.map (l.toArray.getD · default)) a) : (Code.region id l.toArray true).wp P R a w :=
  wp_app (fun w' => ∃ m : SWA S, w' = m.val) hd x y mid pp u v hm hB hQ ⟨⟨w.drew, hS⟩, rfl⟩ h
end Go.Proofs.YtlhhiiemojhjdaaDoor
/- JSON: a list or object that is being made: its struct in block jb, its rows behind it. -/
set_option linter.unusedVariables false
set_option linter.unusedSimpArgs false
namespace Go.Proofs.YtlhhiiemojhjdaaDoor
open Go Go.RowKit
def zeroC : List Value := [.int .i64 0, .string ⟨#[]⟩, .slice none 0 0, .slice none 0 0]
theorem info_json : (Tryd.prog.info? 40).map (fun i => (i.zero, i.size, i.bytes)) = some (some (.agg #[.int .i64 0, .string ⟨#[]⟩, .slice none 0 0, .slice none 0 0]), 4, 72) := by kernel_rfl
theorem JOK.frameX {w w' : World} {X : Nat → Prop} : ∀ {ks : List JsonD} {lo hi : Nat} {cells : List Value}, (∀ b, lo ≤ b → b < hi → ¬ X b → b < w.heap.size → w'.heap[b]? = w.heap[b]?) → JOK w X ks lo hi cells → JOK w' X ks lo hi cells
  | [], lo, hi, cells, _, h => by rw [JOK] at h ⊢; exact h
  | j :: r, lo, hi, cells, hf, h => by
    rw [JOK] at h ⊢
    obtain ⟨vn, vk, rest, l, h', e, a1, a2, a3, a4, a5, a6⟩ := h
    refine ⟨vn, vk, rest, l, h', e, a1, a2, a3, a4, JO.frame j l h' vn vk (fun b b1 b2 b3 => hf b (by omega) (by omega) (fun hx => by have := a4 b hx; omega) b3) a5, JOK.frameX (fun b b1 b2 hx b3 => hf b (by omega) b2 hx b3) a6⟩
structure LstV (w : World) (jb : Nat) (k : Int) (ns : List Txt) (acc : List JsonD) (vn vk : Value) (cells : List Value) : Prop where
  blk : w.heap[jb]? = some (.cells (jsonC k [] vn vk).toArray 40 (0, 0))
  nrow : w.ownsRow (jb + 1) 9 1 vn ns.length (ns.map strV)
  krow : w.ownsRow (jb + 1) 40 4 vk acc.length cells
  kids : JOK w (fun b => vn.ownBlock = some b ∨ vk.ownBlock = some b) acc (jb + 1) w.heap.size cells
def LstB (w : World) (jb : Nat) (k : Int) (ns : List Txt) (acc : List JsonD) : Prop := ∃ vn vk cells, LstV w jb k ns acc vn vk cells
theorem LstV.lt {w : World} {jb : Nat} {k : Int} {ns : List Txt} {acc : List JsonD} {vn vk : Value} {cells : List Value} (h : LstV w jb k ns acc vn vk cells) : jb < w.heap.size := lt_of_heap h.blk
theorem LstV.gx {w w' : World} {jb b : Nat} {k : Int} {ns : List Txt} {acc : List JsonD} {vn vk : Value} {cells : List Value} (h : LstV w jb k ns acc vn vk cells) (hg : GX [b] w w') (hb : b < jb) : LstV w' jb k ns acc vn vk cells := by
  have hf : ∀ b', jb ≤ b' → b' < w.heap.size → w'.heap[b']? = w.heap[b']? := fun b' h1 h2 => hg.block b' h2 (by simp; omega)
  refine ⟨(hf jb (Nat.le_refl _) h.lt).trans h.blk, ownsRow_frame h.nrow (fun b' h1 h2 => hf b' (by have := (ownsRow_base h.nrow h1).1; omega) h2), ownsRow_frame h.krow (fun b' h1 h2 => hf b' (by have := (ownsRow_base h.krow h1).1; omega) h2), ?_⟩
  exact JOK.widen (JOK.frame _ acc _ _ _ (fun b' h1 h2 h3 => hf b' (by omega) h3) h.kids) (Nat.le_refl _) hg.size (fun b h => .inl h)
theorem LstB.gx {w w' : World} {jb b : Nat} {k : Int} {ns : List Txt} {acc : List JsonD} (h : LstB w jb k ns acc) (hg : GX [b] w w') (hb : b < jb) : LstB w' jb k ns acc := by
  obtain ⟨vn, vk, cells, h⟩ := h
  exact ⟨vn, vk, cells, h.gx hg hb⟩
theorem LstB.start {w : World} {jb : Nat} {k : Int} (h : w.heap[jb]? = some (.cells (jsonC k [] (.slice none 0 0) (.slice none 0 0)).toArray 40 (0, 0))) : LstB w jb k [] [] :=
  ⟨_, _, [], h, World.ownsRow_nil _ _ _ _, World.ownsRow_nil _ _ _ _, by rw [JOK]⟩
theorem LstB.toJO {w : World} {jb lo : Nat} {k : Int} {ns : List Txt} {acc : List JsonD} (h : LstB w jb k ns acc) (hlo : lo ≤ jb + 1) : ∃ vn vk, w.heap[jb]? = some (.cells (jsonC k [] vn vk).toArray 40 (0, 0)) ∧ JO w (.mk k [] ns acc) lo w.heap.size vn vk := by
  obtain ⟨vn, vk, cells, h⟩ := h
  refine ⟨vn, vk, h.blk, ?_⟩
  rw [JO]
  have hlt := h.lt
  exact ⟨by omega, ownsRow_low h.nrow hlo, fun b hb => (ownsRow_base h.nrow hb).2, fun b hb => (ownsRow_base h.krow hb).2, cells, ownsRow_low h.krow hlo, h.kids.widen hlo (Nat.le_refl _) (fun b hb => .inl hb)⟩
/-- A kid more: what the world must have come to. -/
theorem LstV.kid {W W1 W4 : World} {jb b : Nat} {k : Int} {ns : List Txt} {acc : List JsonD} {vn vk vk' un uk : Value} {cells : List Value} {v : JsonD} (h : LstV W jb k ns acc vn vk cells) (h1 : GX [b] W W1) (hb : b < jb)
    (hv : JO W1 v W.heap.size W1.heap.size un uk) (hs : W1.heap.size ≤ W4.heap.size) (hblk : W4.heap[jb]? = some (.cells (jsonC k [] vn vk').toArray 40 (0, 0)))
    (hrow : W4.ownsRow (jb + 1) 40 4 vk' (acc.length + 1) (cells ++ cellJ v un uk)) (hf : ∀ b', b' < W1.heap.size → b' ≠ jb → vk.ownBlock ≠ some b' → W4.heap[b']? = W1.heap[b']?)
    (ho : vk'.ownBlock = vk.ownBlock ∨ ∃ n, W1.heap.size ≤ n ∧ vk'.ownBlock = some n) : LstV W4 jb k ns (acc ++ [v]) vn vk' (cells ++ cellJ v un uk) := by
  have g := h.gx h1 hb
  have hkb : ∀ b', vk.ownBlock = some b' → jb + 1 ≤ b' ∧ b' < W.heap.size := fun b' hb' => ownsRow_base h.krow hb'
  have hnb : ∀ b', vn.ownBlock = some b' → jb + 1 ≤ b' ∧ b' < W.heap.size := fun b' hb' => ownsRow_base h.nrow hb'
  have hne : ∀ b', vn.ownBlock = some b' → vk.ownBlock ≠ some b' := fun b' e1 e2 => by
    rcases h.nrow.2 with ⟨e, _⟩ | ⟨g1, c1, cur1, e, _, e3, _⟩
    · rw [e] at e1; cases e1
    · rcases h.krow.2 with ⟨f, _⟩ | ⟨g2, c2, cur2, f, _, f3, _⟩
      · rw [f] at e2; cases e2
      · rw [e] at e1; rw [f] at e2
        simp [Value.ownBlock] at e1 e2
        subst e1 e2
        rw [e3] at f3
        injection f3 with f3
        injection f3 with _ f3 _
        exact absurd f3 (by decide)
  have hlt := h.lt
  have h1s := h1.size
  refine ⟨hblk, ownsRow_frame g.nrow (fun b' e hlt' => hf b' hlt' (by have := hnb b' e; omega) (hne b' e)), by rw [List.length_append]; exact hrow, ?_⟩
  have hX : ∀ b', (vn.ownBlock = some b' ∨ vk'.ownBlock = some b') → (vn.ownBlock = some b' ∨ vk.ownBlock = some b') ∨ b' < jb + 1 ∨ W1.heap.size ≤ b' := fun b' e => by
    rcases e with e | e
    · exact .inl (.inl e)
    · rcases ho with ho | ⟨n, hn, ho⟩
      · rw [ho] at e; exact .inl (.inr e)
      · rw [ho] at e; injection e with e; right; right; omega
  have hk1 : JOK W1 (fun b => vn.ownBlock = some b ∨ vk.ownBlock = some b) acc (jb + 1) W.heap.size cells := JOK.frame _ acc _ _ _ (fun b' e1 e2 e3 => h1.block b' e3 (by simp; omega)) h.kids
  have hk4 : JOK W4 (fun b => vn.ownBlock = some b ∨ vk.ownBlock = some b) acc (jb + 1) W.heap.size cells := JOK.frameX (fun b' e1 e2 hx e3 => hf b' e3 (by omega) (fun e => hx (.inr e))) hk1
  have hv4 : JO W4 v W.heap.size W1.heap.size un uk := JO.frame v _ _ un uk (fun b' e1 e2 e3 => hf b' e3 (by omega) (fun e => by have := hkb b' e; omega)) hv
  refine JOK.snoc hv4 hs (fun b' e => ?_) (hk4.widen (Nat.le_refl _) (Nat.le_refl _) (fun b' e => by
    rcases hX b' e with h | h | h
    · exact .inl h
    · exact .inr (.inl h)
    · right; right; omega)) (by omega)
  rcases hX b' e with h | h | h
  · left
    rcases h with h | h
    · exact (hnb b' h).2
    · exact (hkb b' h).2
  · left; omega
  · right; omega
/-- A name more. -/
theorem LstV.name {W W4 : World} {jb : Nat} {k : Int} {ns : List Txt} {acc : List JsonD} {vn vk vn' : Value} {cells : List Value} {t : Txt} (h : LstV W jb k ns acc vn vk cells) (hs : W.heap.size ≤ W4.heap.size)
    (hblk : W4.heap[jb]? = some (.cells (jsonC k [] vn' vk).toArray 40 (0, 0))) (hrow : W4.ownsRow (jb + 1) 9 1 vn' (ns.length + 1) (ns.map strV ++ [strV t])) (hf : ∀ b', b' < W.heap.size → b' ≠ jb → vn.ownBlock ≠ some b' → W4.heap[b']? = W.heap[b']?)
    (ho : vn'.ownBlock = vn.ownBlock ∨ ∃ n, W.heap.size ≤ n ∧ vn'.ownBlock = some n) : LstV W4 jb k (ns ++ [t]) acc vn' vk cells := by
  have hkb : ∀ b', vk.ownBlock = some b' → jb + 1 ≤ b' ∧ b' < W.heap.size := fun b' hb' => ownsRow_base h.krow hb'
  have hne : ∀ b', vk.ownBlock = some b' → vn.ownBlock ≠ some b' := fun b' e2 e1 => by
    rcases h.nrow.2 with ⟨e, _⟩ | ⟨g1, c1, cur1, e, _, e3, _⟩
    · rw [e] at e1; cases e1
    · rcases h.krow.2 with ⟨f, _⟩ | ⟨g2, c2, cur2, f, _, f3, _⟩
      · rw [f] at e2; cases e2
      · rw [e] at e1; rw [f] at e2
        simp [Value.ownBlock] at e1 e2
        subst e1 e2
        rw [e3] at f3
        injection f3 with f3
        injection f3 with _ f3 _
        exact absurd f3 (by decide)
  have hlt := h.lt
  refine ⟨hblk, by rw [List.length_append, List.map_append]; exact hrow, ownsRow_frame h.krow (fun b' e hlt' => hf b' hlt' (by have := hkb b' e; omega) (hne b' e)), ?_⟩
  have hk4 : JOK W4 (fun b => vn.ownBlock = some b ∨ vk.ownBlock = some b) acc (jb + 1) W.heap.size cells := JOK.frameX (fun b' e1 e2 hx e3 => hf b' e3 (by omega) (fun e => hx (.inl e))) h.kids
  refine JOK.widen hk4 (Nat.le_refl _) hs (fun b' e => ?_)
  rcases e with e | e
  · rcases ho with ho | ⟨n, hn, ho⟩
    · rw [ho] at e; exact .inl (.inl e)
    · rw [ho] at e; injection e with e; right; right; omega
  · exact .inl (.inr e)
/-- Blocks that came since count for nothing. -/
theorem GX.sub {S T : List Nat} {w0 w w' : World} (h : GX S w0 w) (k : GX T w w') (hT : ∀ b ∈ T, b ∈ S ∨ w0.heap.size ≤ b) : GX S w0 w' :=
  ⟨k.os.trans h.os, k.tape.trans h.tape, k.output.trans h.output, Nat.le_trans h.size k.size, fun b hb hn => (k.block b (Nat.lt_of_lt_of_le hb h.size) (fun e => by rcases hT b e with h1 | h1; exact hn h1; omega)).trans (h.block b hb hn)⟩
theorem GX.gbo {w w' : World} {row : Option Nat} (h : w.grownBy w' row) : GX row.toList w w' :=
  ⟨h.os, h.tape, h.output, h.size, fun k hk hn => h.block k hk (fun e => hn (by rw [← e]; simp))⟩
theorem there_row {w : World} {g : Nat} {cur : Array Value} {t : TypeId} {o n : Nat} (h : w.heap[g]? = some (.cells cur t (0, 0))) (hn : o + n ≤ cur.size) : w.there g o n := fun j hj =>
  ⟨by rw [cell_of_row _ _ _ _ _ _ h, Array.getElem?_eq_getElem (by omega)]; rfl, frozen_of_row w g (o + j) _ _ h⟩
theorem row_last {w : World} {g cap n base : Nat} {t : TypeId} {cells z vs : List Value} {cur : Array Value} (h : w.heap[g]? = some (.cells cur t (0, 0))) (hb : base ≤ g) (hn : n + 1 ≤ cap) (hm : cap ≤ maxLen) (hc : cur.size = cap * 4) (ht : cur.toList.take ((n + 1) * 4) = cells ++ z)
    (hl : cells.length = n * 4) (hv : vs.length = 4) : ∃ cur', (w.setCells g (n * 4) vs).heap[g]? = some (.cells cur' t (0, 0)) ∧ cur'.size = cap * 4 ∧ cur'.toList.take ((n + 1) * 4) = cells ++ vs := by
  have hh := heap_setCells g t (0, 0) vs (n * 4) w cur h (by omega)
  refine ⟨_, hh, by simp; omega, ?_⟩
  have e1 : cur.toList.take (n * 4) = cells := by
    have := congrArg (List.take (n * 4)) ht
    rw [List.take_take, Nat.min_eq_left (by omega), List.take_left' hl] at this
    exact this
  show List.take ((n + 1) * 4) (cur.toList.take (n * 4) ++ vs ++ cur.toList.drop (n * 4 + vs.length)) = cells ++ vs
  rw [e1, List.take_left' (by rw [List.length_append, hl, hv]; omega)]
theorem jo_form {w : World} {j : JsonD} {lo hi : Nat} {un uk : Value} (h : JO w j lo hi un uk) : (∃ A n c, un = .slice A n c) ∧ ∃ A n c, uk = .slice A n c := by
  obtain ⟨k, t, ns, ks⟩ := j
  rw [JO] at h
  obtain ⟨_, h1, _, _, cells, h2, _⟩ := h
  obtain ⟨A, c, e, _⟩ := row_cells h1 (by simp)
  obtain ⟨A', c', e', _⟩ := row_cells h2 h2.1
  exact ⟨⟨_, _, _, e⟩, _, _, _, e'⟩
theorem cellJ_one {j : JsonD} {un uk : Value} (h1 : ∃ A n c, un = .slice A n c) (h2 : ∃ A n c, uk = .slice A n c) : (cellJ j un uk).toArray.all (·.oneCell') = true := by
  obtain ⟨_, _, _, rfl⟩ := h1
  obtain ⟨_, _, _, rfl⟩ := h2
  simp [cellJ, jsonC, Value.oneCell']
/-- Two stores, in either order: what stands behind them. -/
structure Two (w3 W4 : World) (g jb : Nat) (t : TypeId) (n cap : Nat) (cs : List Value) (jc : List Value) : Prop where
  gx : GX [g, jb] w3 W4
  row : ∃ cur, W4.heap[g]? = some (.cells cur t (0, 0)) ∧ cur.size = cap * 4 ∧ cur.toList.take ((n + 1) * 4) = cs
  blk : W4.heap[jb]? = some (.cells jc.toArray 40 (0, 0))
theorem two_a {w3 : World} {g jb cap n base : Nat} {t : TypeId} {cells z vs jc : List Value} {cur : Array Value} (h : w3.heap[g]? = some (.cells cur t (0, 0))) (hb : base ≤ g) (hn : n + 1 ≤ cap) (hm : cap ≤ maxLen) (hc : cur.size = cap * 4) (ht : cur.toList.take ((n + 1) * 4) = cells ++ z)
    (hl : cells.length = n * 4) (hv : vs.length = 4) (hj : w3.heap[jb]? = some (.cells jc.toArray 40 (0, 0))) (hne : g ≠ jb) (i : Nat) (u : Value) : Two w3 ((w3.setCells g (n * 4) vs).setCell ⟨jb, i, none⟩ u) g jb t n cap (cells ++ vs) (jc.set i u) := by
  obtain ⟨cur', h1, h2, h3⟩ := row_last h hb hn hm hc ht hl hv
  refine ⟨(GX.gb (setCells_gb g vs _ _) (by simp)).set (by simp) _ _, ⟨cur', ?_, h2, h3⟩, ?_⟩
  · rw [heap_setCell_other _ ⟨jb, i, none⟩ g u (by simpa using hne)]; exact h1
  · rw [heap_setCell_any _ jb i jc.toArray 40 (0, 0) u (by rw [(setCells_gb g vs _ _).block jb (lt_of_heap hj) (by simpa using Ne.symm hne)]; exact hj)]
    simp
theorem two_b {w3 : World} {g jb cap n base : Nat} {t : TypeId} {cells z vs jc : List Value} {cur : Array Value} (h : w3.heap[g]? = some (.cells cur t (0, 0))) (hb : base ≤ g) (hn : n + 1 ≤ cap) (hm : cap ≤ maxLen) (hc : cur.size = cap * 4) (ht : cur.toList.take ((n + 1) * 4) = cells ++ z)
    (hl : cells.length = n * 4) (hv : vs.length = 4) (hj : w3.heap[jb]? = some (.cells jc.toArray 40 (0, 0))) (hne : g ≠ jb) (i : Nat) (u : Value) : Two w3 ((w3.setCell ⟨jb, i, none⟩ u).setCells g (n * 4) vs) g jb t n cap (cells ++ vs) (jc.set i u) := by
  have h' : (w3.setCell ⟨jb, i, none⟩ u).heap[g]? = some (.cells cur t (0, 0)) := by rw [heap_setCell_other _ ⟨jb, i, none⟩ g u (by simpa using hne)]; exact h
  obtain ⟨cur', h1, h2, h3⟩ := row_last h' hb hn hm hc ht hl hv
  have hj' : (w3.setCell ⟨jb, i, none⟩ u).heap[jb]? = some (.cells (jc.set i u).toArray 40 (0, 0)) := by
    rw [heap_setCell_any _ jb i jc.toArray 40 (0, 0) u hj]; simp
  refine ⟨((GX.refl [g, jb] w3).set (by simp) _ _).trans (GX.gb (setCells_gb g vs _ _) (by simp)), ⟨cur', h1, h2, h3⟩, ?_⟩
  rw [(setCells_gb g vs _ _).block jb (lt_of_heap hj') (by simpa using Ne.symm hne)]; exact hj'
end Go.Proofs.YtlhhiiemojhjdaaDoor
