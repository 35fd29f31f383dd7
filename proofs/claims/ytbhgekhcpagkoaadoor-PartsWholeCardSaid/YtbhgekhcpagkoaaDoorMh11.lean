/- Texts of this proof, laid into one: Flo, PaR. -/
import Derived.Test.YtbhgekhcpagkoaaDoorMh10
import Derived.Deep.RegionHeld3
import Derived.Great.BuildSlice
/- A region that draws its order and holds one alloc that may come up at any time beside a chain of calls: v, e := f(g(..)). -/
set_option linter.unusedVariables false
namespace Go.Proofs.YtbhgekhcpagkoaaDoor
open Go Go.RowKit
section
variable {P : Program} {ops : Array Oper} {R : Exit → Act → World → Prop}
/-- An operation that does not look at z's slot does the same behind z. -/
theorem wpOp_set {j : Nat} {oz oj : Oper} {v : Value} (hj : ops[j]? = some oj) (hap : oz.apart ops oj = true) (hsj : ∀ cs b, oj.op ≠ .select cs b)
    (hQ : ∀ c a w, R (.panic c) a w → R (.panic c) (a.put oz.dst v) w) {K : Act → World → Prop} {a : Act} {w : World}
    (h : wpOp P ops R j K a w) : wpOp P ops R j (fun a' w' => ∃ a0, a' = Act.put a0 oz.dst v ∧ K a0 w') (a.put oz.dst v) w := by
  obtain ⟨h1, h2, h3⟩ := Oper.apart_spec hap
  unfold wpOp at *
  simp only [hj] at *
  rw [wanted_put oj a oz.dst v h1]
  split
  · rename_i hw
    simp only [hw, if_true] at h
    rcases h with h | ⟨hasks, hlets⟩
    case inr => exact .inr ⟨by unfold Oper.asks at *; rw [execOp_put oj hsj a oz.dst v h1]; exact hasks, hlets⟩
    refine .inl ?_
    unfold Oper.wp at *
    rw [execOp_put oj hsj a oz.dst v h1]
    generalize (execOp a.eval oj).run P w = r at *
    cases r with
    | ok n w' =>
      cases n <;> simp only [Oper.upon] at h ⊢
      case value u => exact ⟨_, Act.put_comm a v u h2, h⟩
      case skip => exact ⟨_, Act.put_comm a v undef h2, h⟩
      case defer d => exact ⟨_, by rw [Act.put_defers, Act.put_comm _ v undef h2], h⟩
      case enter f args =>
        refine Calls.mono h fun e w'' he => ?_
        cases e with
        | returned u => exact ⟨_, Act.put_comm a v u h2, he⟩
        | panicked c => exact hQ _ _ _ he
        | outgrown => exact he
      case row row args => exact Rows.mono h fun u w'' he => ⟨_, Act.put_comm a v u h2, he⟩
    | halt x w' =>
      cases x <;> simp only [Oper.upon] at h ⊢
      case panic u => exact hQ _ _ _ h
  · rename_i hw
    simp only [hw] at h
    exact ⟨_, Act.put_comm a v undef h2, h⟩
/-- A chain, each of whose members is shown in whatever world has grown from the one at hand; behind each some pure operations. -/
def wpCh (P : Program) (ops : Array Oper) (R : Exit → Act → World → Prop) (E : Act → World → Prop) : List (Oper × List Oper) → Act → World → Prop
  | [], a, w => E a w
  | (o, q) :: r, a, w => ∀ W, Q w W → ∀ K : Act → World → Prop, Hid (∀ a' w', Q W w' → wpQuiet P ops (fun _ => True) (fun a'' => wpCh P ops R E r a'' w') q a' → K a' w') → wpList P ops (Exit.then K R) [o] a W
/-- The end of it: the alloc's block stands somewhere. -/
def wpChE (P : Program) (ops : Array Oper) (R : Exit → Act → World → Prop) (N : Nat) (obj : Obj) (zd : Option Tmp) (zs : List Oper) (a : Act) (w : World) : Prop :=
  ∀ W b, Q w W → W.heap[b]? = some obj → N ≤ b → wpList P ops R zs (a.put zd (.pointer (some ⟨b, 0, none⟩))) W
theorem wpQuiet_set {T : World → Prop} {K : Act → Prop} {oz : Oper} {v : Value} (l : List Oper) : ∀ (a : Act), (∀ o ∈ l, oz.apart ops o = true) → (∀ o ∈ l, ∀ cs b, o.op ≠ .select cs b) →
    wpQuiet P ops T K l a → wpQuiet P ops T (fun a' => ∃ a0, a' = Act.put a0 oz.dst v ∧ K a0) l (a.put oz.dst v) := by
  induction l with
  | nil => intro a _ _ h; exact ⟨a, rfl, h⟩
  | cons o r ih =>
    intro a hap hse h
    obtain ⟨h1, h2, h3⟩ := Oper.apart_spec (hap o (by simp))
    have ihr := fun a h => ih a (fun o ho => hap o (List.mem_cons_of_mem _ ho)) (fun o ho => hse o (List.mem_cons_of_mem _ ho)) h
    unfold wpQuiet at h ⊢
    rw [wanted_put o a oz.dst v h1]
    split at h
    · next hw =>
      rw [if_pos hw]
      obtain ⟨x, hx, hn⟩ := h
      refine ⟨x, fun w hw => ?_, ?_⟩
      · have := hx w hw
        unfold Oper.quietAt at this ⊢
        rw [execOp_put o (hse o (by simp)) a oz.dst v h1]
        exact this
      · rw [Act.put_comm a v x h2]; exact ihr _ hn
    · next hw =>
      rw [if_neg hw, Act.put_comm a v undef h2]; exact ihr _ h
variable {w0 : World} {obj : Obj} {z : Nat} {oz : Oper} {zs : List Nat}
def opsL (ops : Array Oper) (tl : List (Nat × List Nat)) : List (Oper × List Oper) := tl.map fun p => (ops.getD p.1 default, p.2.map (ops.getD · default))
def lenC : List (Nat × List Nat) → Nat
  | [] => 0
  | (k, q) :: r => q.length + lenC r + 1
def sB (ops : Array Oper) (zs : List Nat) : List (Nat × List Nat) → Array Bool → Bool
  | [], ls => tailB .any ops zs ls && (Region.ready .any ops ls).all fun i => zs.contains i
  | (k, q) :: r, ls => decide (Region.ready .any ops ls = [k]) && (ops[k]?).isSome && pureB .any ops q (ls.setIfInBounds k true) && sB ops zs r (markB q (ls.setIfInBounds k true))
def apB (ops : Array Oper) (oz : Oper) (zs : List Nat) (tl : List (Nat × List Nat)) : Bool :=
  tl.all fun p => (p.1 :: p.2).all fun i => !zs.contains i && match ops[i]? with | some o => oz.apart ops o | none => false
theorem noSel_mem (hsel : Region.noSelect ops = true) {i : Nat} (h : (ops[i]?).isSome = true) : ∀ cs b, (ops.getD i default).op ≠ .select cs b := by
  obtain ⟨o, ho⟩ := Option.isSome_iff_exists.1 h
  have hk : ops.getD i default = o := by simp [Array.getD_eq_getD_getElem?, ho]
  rw [hk]; exact fun cs b => Region.noSelect_spec hsel i o cs b ho
theorem flo_B (hsel : Region.noSelect ops = true) (hQ1 : ∀ c a d v w, R (.panic c) (Act.put a d v) w → R (.panic c) a w) (hQ : ∀ c a d v w, R (.panic c) a w → R (.panic c) (Act.put a d v) w) (tl : List (Nat × List Nat)) : ∀ (ls : Array Bool) (a : Act) (w W : World) (b : Nat), ClosedL ops ls →
    apB ops oz zs tl = true → sB ops zs tl ls = true → Q w0 w → Q w W → W.heap[b]? = some obj → w0.heap.size ≤ b →
    wpCh P ops R (wpChE P ops R w0.heap.size obj oz.dst (zs.map (ops.getD · default))) (opsL ops tl) a w → wpAnyZ P ops R (fun w' => ∃ m : QW w0, w' = m.val) zs (lenC tl + zs.length) ls (a.put oz.dst (.pointer (some ⟨b, 0, none⟩))) W := by
  induction tl with
  | nil =>
    intro ls a w W b _ _ hB h0 hW hb hN h
    simp only [sB, Bool.and_eq_true] at hB
    have h1 := wpAny_of_held _ _ _ _ (any_tail zs ls _ W hB.1 (h W b hW hb hN))
    have e : lenC [] + zs.length = zs.length := by simp [lenC]
    rw [e]
    generalize zs.length = f at h1
    cases f with
    | zero => exact h1
    | succ f =>
      refine ⟨h1.1, fun i hi => wpOp_mono (fun a' w' h' => ?_) (h1.2 i hi)⟩
      rw [if_pos (by simpa using List.all_eq_true.1 hB.2 i hi)]
      exact h'
  | cons p r ih =>
    obtain ⟨k, q⟩ := p
    intro ls a w W b inv hap hB h0 hW hb hN h
    simp only [sB, Bool.and_eq_true, decide_eq_true_eq] at hB
    obtain ⟨⟨⟨b1, b2⟩, b3⟩, b4⟩ := hB
    have hap2 : apB ops oz zs r = true := by
      unfold apB at hap ⊢; rw [List.all_cons, Bool.and_eq_true] at hap; exact hap.2
    have hapk : ∀ i ∈ k :: q, i ∉ zs ∧ ∃ o, ops[i]? = some o ∧ oz.apart ops o = true := fun i hi => by
      unfold apB at hap; rw [List.all_cons, Bool.and_eq_true] at hap
      have := List.all_eq_true.1 hap.1 i hi
      simp only [Bool.and_eq_true] at this
      refine ⟨fun e => (by have := this.1; rw [List.contains_iff_mem.2 e] at this; cases this), ?_⟩
      cases ho : ops[i]? with
      | none => rw [ho] at this; exact absurd this.2 (by simp)
      | some o => rw [ho] at this; exact ⟨o, rfl, this.2⟩
    have e : lenC ((k, q) :: r) + zs.length = (q.length + (lenC r + zs.length)) + 1 := by simp [lenC]; omega
    rw [e]
    refine ⟨fun hn => (by rw [b1] at hn; cases hn), fun i hi => ?_⟩
    have hi' := hi
    rw [b1] at hi
    have e : i = k := by simpa using hi
    subst e
    obtain ⟨hizs, o, ho, hapo⟩ := hapk i (by simp)
    have hk : ops.getD i default = o := by simp [Array.getD_eq_getD_getElem?, ho]
    have h2 : wpCh P ops R (wpChE P ops R w0.heap.size obj oz.dst (zs.map (ops.getD · default))) ((o, q.map (ops.getD · default)) :: opsL ops r) a w := by
      have := h
      simp only [opsL, List.map_cons, hk] at this
      exact this
    have h1 : wpOp P ops R i (fun a' w' => Q W w' ∧ wpQuiet P ops (fun _ => True) (fun a'' => wpCh P ops R (wpChE P ops R w0.heap.size obj oz.dst (zs.map (ops.getD · default))) (opsL ops r) a'' w') (q.map (ops.getD · default)) a') a W :=
      wpOp_of_one ho (h2 W hW _ (fun a' w' hq h' => ⟨hq, h'⟩))
    refine wpOp_mono (fun a' w' h' => ?_) (wpOp_set (oz := oz) ho hapo (fun cs b => Region.noSelect_spec hsel i o cs b ho) (fun c a w => hQ c a _ _ w) h1)
    obtain ⟨a1, rfl, hq, hc⟩ := h'
    rw [if_neg hizs]
    have h0w : Q w0 w' := (h0.trans hW).trans hq
    refine ⟨⟨⟨w', h0w⟩, rfl⟩, ?_⟩
    refine headZ hsel hQ1 (T := fun _ => True) (fun _ _ => trivial) q (.inr fun _ => trivial) _ w' ⟨⟨w', h0w⟩, rfl⟩ _ _ (inv.set hi') (fun j hj => (hapk j (List.mem_cons_of_mem _ hj)).1) b3 ?_
    refine wpQuiet_mono (fun a'' h'' inv' => ?_) _ _ (wpQuiet_set (oz := oz) (v := .pointer (some ⟨b, 0, none⟩)) _ a1 (fun o ho => ?_) (fun o ho => ?_) hc)
    · obtain ⟨a2, rfl, h3⟩ := h''
      exact ih _ a2 w' w' b inv' hap2 b4 h0w (Q.refl _) (hq.block hb) hN h3
    · obtain ⟨j, hj, rfl⟩ := List.mem_map.1 ho
      obtain ⟨_, o2, ho2, hap3⟩ := hapk j (List.mem_cons_of_mem _ hj)
      have : ops.getD j default = o2 := by simp [Array.getD_eq_getD_getElem?, ho2]
      rw [this]; exact hap3
    · obtain ⟨j, hj, rfl⟩ := List.mem_map.1 ho
      obtain ⟨_, o2, ho2, _⟩ := hapk j (List.mem_cons_of_mem _ hj)
      exact noSel_mem hsel (by rw [ho2]; rfl)
def floB (ops : Array Oper) (z : Nat) (zs : List Nat) : List (Nat × List Nat) → Array Bool → Bool
  | [], ls => decide (Region.ready .any ops ls = [z]) && sB ops zs [] (ls.setIfInBounds z true)
  | (k, q) :: r, ls => (Region.ready .any ops ls).contains k && (Region.ready .any ops ls).contains z && (Region.ready .any ops ls).all (fun i => i == k || i == z) && sB ops zs ((k, q) :: r) (ls.setIfInBounds z true)
      && pureB .any ops q (ls.setIfInBounds k true) && floB ops z zs r (markB q (ls.setIfInBounds k true))
theorem flo_A (hsel : Region.noSelect ops = true) (hQ1 : ∀ c a d v w, R (.panic c) (Act.put a d v) w → R (.panic c) a w) (hQ : ∀ c a d v w, R (.panic c) a w → R (.panic c) (Act.put a d v) w) (hz : ops[z]? = some oz) (hgd : oz.guard = none) (hzz : z ∉ zs)
    (hrun : ∀ (ρ : Operand → Value) (W : World), (execOp ρ oz).run P W = .ok (.value (.pointer (some ⟨W.heap.size, 0, none⟩))) (W.alloc obj)) (tl : List (Nat × List Nat)) : ∀ (ls : Array Bool) (a : Act) (w : World), ClosedL ops ls →
    apB ops oz zs tl = true → floB ops z zs tl ls = true → Q w0 w →
    wpCh P ops R (wpChE P ops R w0.heap.size obj oz.dst (zs.map (ops.getD · default))) (opsL ops tl) a w → wpAnyZ P ops R (fun w' => ∃ m : QW w0, w' = m.val) zs (lenC tl + 1 + zs.length) ls a w := by
  have hzop : ∀ (K : Act → World → Prop) (a : Act) (W : World), K (a.put oz.dst (.pointer (some ⟨W.heap.size, 0, none⟩))) (W.alloc obj) → wpOp P ops R z K a W := by
    intro K a W h
    unfold wpOp
    simp only [hz]
    have hw : Region.wanted oz (yielded ops a.tmps) = true := by simp [Region.wanted, hgd]
    simp only [hw, if_true, Oper.wp, hrun, Oper.upon]
    exact .inl h
  have hzdo : ∀ (tl : List (Nat × List Nat)) (ls : Array Bool) (a : Act) (w : World), ClosedL ops ls → z ∈ Region.ready .any ops ls → apB ops oz zs tl = true → sB ops zs tl (ls.setIfInBounds z true) = true → Q w0 w →
      wpCh P ops R (wpChE P ops R w0.heap.size obj oz.dst (zs.map (ops.getD · default))) (opsL ops tl) a w →
      wpOp P ops R z (fun a' w' => if z ∈ zs then wpAny P .any ops R (lenC tl + zs.length) (ls.setIfInBounds z true) a' w' else (fun w' => ∃ m : QW w0, w' = m.val) w' ∧ wpAnyZ P ops R (fun w' => ∃ m : QW w0, w' = m.val) zs (lenC tl + zs.length) (ls.setIfInBounds z true) a' w') a w := by
    intro tl ls a w inv hzr hap hB h0 h
    refine hzop _ _ _ ?_
    rw [if_neg hzz]
    have hq : Q w (w.alloc obj) := (Q.refl w).alloc _
    exact ⟨⟨⟨_, h0.trans hq⟩, rfl⟩, flo_B hsel hQ1 hQ tl (ls.setIfInBounds z true) a w (w.alloc obj) w.heap.size (inv.set hzr) hap hB h0 hq (MapKept.heap_alloc w _).1 h0.size h⟩
  induction tl with
  | nil =>
    intro ls a w inv hap hB h0 h
    simp only [floB, Bool.and_eq_true, decide_eq_true_eq] at hB
    have e : lenC [] + 1 + zs.length = lenC [] + zs.length + 1 := by omega
    rw [e]
    refine ⟨fun hn => (by rw [hB.1] at hn; cases hn), fun i hi => ?_⟩
    have hi' := hi
    rw [hB.1] at hi
    have e : i = z := by simpa using hi
    subst e
    exact hzdo [] ls a w inv hi' hap hB.2 h0 h
  | cons p r ih =>
    obtain ⟨k, q⟩ := p
    intro ls a w inv hap hB h0 h
    simp only [floB, Bool.and_eq_true] at hB
    obtain ⟨⟨⟨⟨⟨b1, b1z⟩, b2⟩, b4⟩, b5⟩, b7⟩ := hB
    have hap2 : apB ops oz zs r = true := by
      unfold apB at hap ⊢; rw [List.all_cons, Bool.and_eq_true] at hap; exact hap.2
    have hapk : ∀ i ∈ k :: q, i ∉ zs ∧ ∃ o, ops[i]? = some o ∧ oz.apart ops o = true := fun i hi => by
      unfold apB at hap; rw [List.all_cons, Bool.and_eq_true] at hap
      have := List.all_eq_true.1 hap.1 i hi
      simp only [Bool.and_eq_true] at this
      refine ⟨fun e => (by have := this.1; rw [List.contains_iff_mem.2 e] at this; cases this), ?_⟩
      cases ho : ops[i]? with
      | none => rw [ho] at this; exact absurd this.2 (by simp)
      | some o => rw [ho] at this; exact ⟨o, rfl, this.2⟩
    have hne : k ∈ Region.ready .any ops ls := by simpa using b1
    have hze : z ∈ Region.ready .any ops ls := by simpa using b1z
    have e1 : lenC ((k, q) :: r) + 1 + zs.length = (lenC ((k, q) :: r) + zs.length) + 1 := by omega
    rw [e1]
    refine ⟨fun hn => (by rw [hn] at hne; cases hne), fun i hi => ?_⟩
    have hik : i = k ∨ i = z := by simpa using List.all_eq_true.1 b2 i hi
    by_cases hiz : i = z
    · subst hiz
      exact hzdo ((k, q) :: r) ls a w inv hi hap b4 h0 h
    · have e : i = k := hik.resolve_right hiz
      subst e
      obtain ⟨hizs, o, ho, _⟩ := hapk i (by simp)
      have hk : ops.getD i default = o := by simp [Array.getD_eq_getD_getElem?, ho]
      have h2 : wpCh P ops R (wpChE P ops R w0.heap.size obj oz.dst (zs.map (ops.getD · default))) ((o, q.map (ops.getD · default)) :: opsL ops r) a w := by
        have := h
        simp only [opsL, List.map_cons, hk] at this
        exact this
      refine wpOp_of_one ho (h2 w (Q.refl _) _ (fun a' w' hq h' => ?_))
      rw [if_neg hizs]
      have h0w : Q w0 w' := h0.trans hq
      refine ⟨⟨⟨w', h0w⟩, rfl⟩, ?_⟩
      have e3 : lenC ((i, q) :: r) + zs.length = q.length + (lenC r + 1 + zs.length) := by simp [lenC]; omega
      rw [e3]
      refine headZ hsel hQ1 (T := fun _ => True) (fun _ _ => trivial) q (.inr fun _ => trivial) _ w' ⟨⟨w', h0w⟩, rfl⟩ _ _ (inv.set hi) (fun j hj => (hapk j (List.mem_cons_of_mem _ hj)).1) b5 ?_
      exact wpQuiet_mono (fun a'' h'' inv' => ih _ a'' w' inv' hap2 b7 h0w h'') _ _ h'
/-- Each is waited for by one behind it, or by y. -/
def sinkR (ops : Array Oper) (y : Nat) : List Nat → Bool
  | [] => true
  | i :: r => (r ++ [y]).any (fun j => Region.waitsFor .any ops j i) && sinkR ops y r
theorem sinkR_all {y : Nat} {ls : Array Bool} (inv : ClosedL ops ls) (hy : y ∈ Region.ready .any ops ls) (qs : List Nat) : (∀ i ∈ qs, i < ops.size) → sinkR ops y qs = true → ∀ i ∈ qs, ls.getD i true = true := by
  induction qs with
  | nil => intro _ _ i hi; cases hi
  | cons a r ih =>
    intro hsz hs i hi
    simp only [sinkR, Bool.and_eq_true] at hs
    have ihr := ih (fun i hi => hsz i (List.mem_cons_of_mem _ hi)) hs.2
    rcases List.mem_cons.1 hi with e | e
    · subst e
      obtain ⟨j, hj, hj2⟩ := List.any_eq_true.1 hs.1
      obtain ⟨oj, hoj, e, he, hb, hon⟩ := Region.waitsFor_spec hj2
      cases hun : ls.getD i true with
      | true => rfl
      | false =>
        exfalso
        rcases List.mem_append.1 hj with hjr | hjy
        · have hjl : ls.getD j false = true := by
            have h1 := ihr j hjr
            have hjs : j < ls.size := by rw [inv.size]; exact hsz j (List.mem_cons_of_mem _ hjr)
            simpa [hjs] using h1
          have h2 := inv.closed j oj hoj hjl e he hb
          rw [hon, getD_both hun] at h2
          cases h2
        · have : j = y := by simpa using hjy
          subst this
          obtain ⟨_, oz, hoz, hall⟩ := mem_ready.1 hy
          have : oj = oz := Option.some.inj (hoj.symm.trans hoz)
          subst this
          have h2 := hall e he hb
          rw [hon, getD_both hun] at h2
          cases h2
    · exact ihr i e
end
def chIdx (tl : List (Nat × List Nat)) : List Nat := tl.flatMap fun p => p.1 :: p.2
/-- hd: reads, taken first; tl: a chain (calls, mostly), behind each of its members some pure operations; z: the alloc, which may come up beside any of them; zs: the end. ws: per member of the end, a chain of waiting in which the reads stand. -/
theorem wp_flo {P : Program} {id : Nat} {R : Exit → Act → World → Prop} {a : Act} {w : World} {l : List Oper} (hd : List Nat) (tl : List (Nat × List Nat)) (z : Nat) (zs : List Nat) (ws : List (List Nat)) (obj : Obj) (hm : P.follows .mixedOrders = true)
    (hB : (Region.noSelect l.toArray && pureB .any l.toArray hd (Array.replicate l.length false) && floB l.toArray z zs tl (markB hd (Array.replicate l.length false)) && decide (hd.length + (lenC tl + 1 + zs.length) = l.length)
      && hd.all (fun i => !zs.contains i) && !zs.contains z && ((l.getD z default).guard).isNone && decide (z < l.length) && apB l.toArray (l.getD z default) zs tl
      && (zs.zip ws).all (fun p => sinkR l.toArray p.1 p.2 && p.2.all (fun i => decide (i < l.length)) && hd.all fun i => p.2.contains i) && decide (zs.length = ws.length)) = true)
    (hrun : ∀ (ρ : Operand → Value) (W : World), (execOp ρ (l.getD z default)).run P W = .ok (.value (.pointer (some ⟨W.heap.size, 0, none⟩))) (W.alloc obj))
    (h : wpQuiet P l.toArray (fun w' => ∃ m : QW w.drew, w' = m.val) (fun a' => wpCh P l.toArray (NoPanic R) (wpChE P l.toArray (NoPanic R) w.drew.heap.size obj (l.getD z default).dst (zs.map (l.toArray.getD · default))) (opsL l.toArray tl) a' w.drew) (hd.map (l.toArray.getD · default)) a) : (Code.region id l.toArray true).wp P R a w := by
  refine wp_region_noPanic ?_
  simp only [Bool.and_eq_true, decide_eq_true_eq] at hB
  obtain ⟨⟨⟨⟨⟨⟨⟨⟨⟨⟨h1, h2⟩, h3⟩, h4⟩, h5⟩, h6⟩, h7⟩, h8⟩, h9⟩, h10⟩, h11⟩ := hB
  have hn := not_mem_of h5
  have hQ1 : ∀ c a d v w, NoPanic R (.panic c) (Act.put a d v) w → NoPanic R (.panic c) a w := fun _ _ _ _ _ h => h
  have hQ2 : ∀ c a d v w, NoPanic R (.panic c) a w → NoPanic R (.panic c) (Act.put a d v) w := fun _ _ _ _ _ h => h
  have hzs : ∀ i ∈ hd, ∀ ls, ClosedL l.toArray ls → ls.getD i true = false → ∀ y ∈ zs, y ∉ Region.ready .any l.toArray ls := fun i hi ls inv hun y hy hr => by
    obtain ⟨n, hn, rfl⟩ := List.getElem_of_mem hy
    have hn2 : n < ws.length := by omega
    have g := List.all_eq_true.1 h10 (zs[n], ws[n]) (by
      rw [show (zs[n], ws[n]) = (zs.zip ws)[n]'(by rw [List.length_zip]; omega) by simp]
      exact List.getElem_mem _)
    simp only [Bool.and_eq_true] at g
    have hiw : i ∈ ws[n] := by simpa using List.all_eq_true.1 g.2 i hi
    have := sinkR_all inv hr ws[n] (fun j hj => by have := List.all_eq_true.1 g.1.2 j hj; simpa using this) g.1.1 i hiw
    rw [hun] at this; cases this
  have inv0 : ClosedL l.toArray (Array.replicate l.length false) := ⟨by simp, fun j oj hj hl => by
      rw [Array.getD_eq_getD_getElem?] at hl
      by_cases hjl : j < l.length
      · simp [hjl] at hl
      · simp [hjl] at hl⟩
  have hoz : l.toArray[z]? = some (l.getD z default) := by simp [List.getD_eq_getElem?_getD, h8]
  refine wp_region_any hm (wpAny_of_Z (S := fun w' => ∃ m : QW w.drew, w' = m.val) (zs := zs) _ _ _ _ ?_)
  have := headZ (zs := zs) (S := fun w' => ∃ m : QW w.drew, w' = m.val) (T := fun w' => ∃ m : QW w.drew, w' = m.val) h1 hQ1 (fun _ h => h) hd (.inl hzs) (lenC tl + 1 + zs.length) w.drew ⟨⟨w.drew, Q.refl _⟩, rfl⟩ _ a inv0 (fun i hi => hn i hi) h2
    (wpQuiet_mono (fun a' h' inv' => flo_A h1 hQ1 hQ2 hoz (by simpa using h7) (fun e => by rw [List.contains_iff_mem.2 e] at h6; cases h6) hrun tl _ a' w.drew inv' h9 h3 (Q.refl _) h') _ _ h)
  rw [h4] at this
  exact this
end Go.Proofs.YtbhgekhcpagkoaaDoor
/- The chapter's examples, walked. -/
set_option linter.unusedVariables false
set_option linter.unusedSimpArgs false
namespace Go.Proofs.YtbhgekhcpagkoaaDoor
open Go Go.RowKit
theorem CompPost.no {ty : List UInt8} {ps l : List PartD} {now : Int} {w w' : World} {e : Ending} (h : CompPost ty ps l now w e w') {x : Int} (hx : compE ps l = x) (h0 : x ≠ 0) : e = .returned (.tuple #[verV zV (.slice none 0 0), .int .i64 x]) ∧ Q w w' := by
  rcases h.1 with h1 | h1
  · exact absurd (hx.symm.trans h1.1) h0
  · rw [hx] at h1; exact ⟨h1.2, h.2⟩
theorem CompPost.yes {ty : List UInt8} {ps l : List PartD} {now : Int} {w w' : World} {e : Ending} (h : CompPost ty ps l now w e w') (hx : compE ps l = 0) : ∃ v, e = .returned (.tuple #[verV (compV ty (pickL ps l) now) v, .int .i64 0]) ∧ OwnI w w' v ((pickL ps l).map (·.blob)) ∧ Q w w' := by
  rcases h.1 with h1 | h1
  · obtain ⟨_, v, h2, h3⟩ := h1; exact ⟨v, h2, h3, h.2⟩
  · exact absurd hx h1.1
def exL : List PartD := [exP 1 15, exP 2 3]
theorem exL_ok : OkP exL := ex_ok _ (by intro p hp; simp [exL] at hp; rcases hp with rfl | rfl <;> rfl)
theorem ex1_ok (n s : Int) : OkP [exP n s] := ex_ok _ (by intro p hp; simp at hp; rw [hp]; rfl)
theorem ex2_ok (n s n2 s2 : Int) : OkP [exP n s, exP n2 s2] := ex_ok _ (by intro p hp; simp at hp; rcases hp with rfl | rfl <;> rfl)
/-- The upload of the examples stands in its box. -/
structure ExU (w0 : World) (N : Nat) (g : Nat) (w : World) : Prop where
  b : BoxU w N zU (.slice (some ⟨g, 0, none⟩) 2 2)
  p : PartsAt w (some ⟨g, 0, none⟩) 2 exL
  t : Tab w
  q : Q w0 w
  n : w0.heap.size ≤ N
theorem ExU.go {w0 w w' : World} {N g : Nat} (h : ExU w0 N g w) (hq : Q w w') : ExU w0 N g w' := ⟨h.b.q hq, h.p.q hq, h.t.q hq, h.q.trans hq, h.n⟩
theorem ExU.comp {w0 w : World} {N g : Nat} (h : ExU w0 N g w) (l : List PartD) (hl : OkP l) (B : Option Addr) (m cap2 : Nat) (now : Int) (hm : m ≤ 9223372036854775807) (hB : PartsAt w B m l) :
    Calls Tryd.prog 12 #[.agg #[.int .i64 0, .string ⟨#[]⟩, .string ⟨#[]⟩, .string ⟨#[]⟩, .string ⟨#[]⟩, .int .i64 0, .slice (some ⟨g, 0, none⟩) 2 2], .slice B m cap2, .int .i64 now] w (CompPost [] exL l now w) :=
  Complete_any zU (some ⟨g, 0, none⟩) B 2 2 m cap2 exL l now w h.p hB exL_ok h.t (by omega) hm (by omega)
set_option maxRecDepth 100000 in
set_option maxHeartbeats 8000000 in
theorem examples_any (w : World) (ht : Tab w) : Calls Tryd.prog 8 #[] w fun e w' => e = .returned (.bool true) ∧ Q w w' := by
  go_enter Tryd.func8, Tryd.ntmps8
  go_wp2_with fail
  refine (of_any 1 0 _).mono ?_
  rintro e w1 ⟨rfl, hq1⟩
  have hp1 := PartsAt.new w1 [exP 1 0]
  have hq1b : Q w1 (w1.alloc (.cells (cellsP [exP 1 0]).toArray 31)) := (Q.refl _).alloc _
  obtain ⟨W1, hW1⟩ : ∃ W, w1.alloc (.cells (cellsP [exP 1 0]).toArray 31) = W := ⟨_, rfl⟩
  have hW1b : w1.alloc (.cells #[.int .i64 1, .int .i64 0, .int .i64 0, .string ⟨tagE.toArray⟩, .int .i64 1] 31) = W1 := hW1
  obtain ⟨g1, hg1⟩ : ∃ g, w1.heap.size = g := ⟨_, rfl⟩
  rw [hW1, hg1] at hp1
  rw [hW1] at hq1b
  have HQ1 := Lib.hid (hq1.trans hq1b)
  clear hW1 hq1b
  have hv : partV (exP 1 0) = .agg #[.int .i64 1, .int .i64 0, .int .i64 0, .string ⟨tagE.toArray⟩, .int .i64 1] := rfl
  rw [hv]
  go_wp2_with fail
  have hE : Calls Tryd.prog 13 #[.slice (some ⟨g1, 0, none⟩) 1 1] W1 (ETagPost [exP 1 0] (.int .i64 0) (.int .i64 1) W1) := ETag_any _ 1 1 _ W1 hp1 (ex1_ok 1 0) (ht.q HQ1.out) (by omega)
  refine hE.mono ?_
  rintro e w2 ⟨h1 | h1, hq2⟩
  · obtain ⟨_, rfl⟩ := h1
    rw [ex_etagL]
    have HQ2 := Lib.hid (HQ1.out.trans hq2)
    clear hE hp1 hq1 hq2 hv hW1b hg1 HQ1
    go_wp2_with fail
    refine (of_any 1 15 _).mono ?_
    rintro e w3 ⟨rfl, hq3⟩
    have hv : partV (exP 1 15) = .agg #[.int .i64 1, .int .i64 15, .int .i64 0, .string ⟨tagE.toArray⟩, .int .i64 1] := rfl
    rw [hv]
    go_wp2_with fail
    refine (of_any 2 3 _).mono ?_
    rintro e w4 ⟨rfl, hq4⟩
    have hv2 : partV (exP 2 3) = .agg #[.int .i64 2, .int .i64 3, .int .i64 0, .string ⟨tagE.toArray⟩, .int .i64 1] := rfl
    rw [hv2]
    have HQ4 := Lib.hid (HQ2.out.trans (hq3.trans hq4))
    clear hv hv2 hq3 hq4 HQ2
    have hp := PartsAt.new w4 exL
    obtain ⟨W5, hW5⟩ : ∃ W, w4.alloc (.cells (cellsP exL).toArray 31) = W := ⟨_, rfl⟩
    have hW5b : w4.alloc (.cells #[.int .i64 1, .int .i64 15, .int .i64 0, .string ⟨tagE.toArray⟩, .int .i64 1, .int .i64 2, .int .i64 3, .int .i64 0, .string ⟨tagE.toArray⟩, .int .i64 1] 31) = W5 := hW5
    obtain ⟨g, hg⟩ : ∃ g, w4.heap.size = g := ⟨_, rfl⟩
    have hq5 : Q w4 W5 := by rw [← hW5]; exact (Q.refl _).alloc _
    rw [hW5, hg] at hp
    have hb := BoxU.new W5 zU (.slice (some ⟨g, 0, none⟩) 2 2)
    have hq6 : Q W5 (W5.alloc (.cells (upL zU (.slice (some ⟨g, 0, none⟩) 2 2)).toArray 26)) := (Q.refl _).alloc _
    obtain ⟨W6, hW6⟩ : ∃ W, W5.alloc (.cells (upL zU (.slice (some ⟨g, 0, none⟩) 2 2)).toArray 26) = W := ⟨_, rfl⟩
    have hW6b : W5.alloc (.cells #[.int .i64 0, .string ⟨#[]⟩, .string ⟨#[]⟩, .string ⟨#[]⟩, .string ⟨#[]⟩, .int .i64 0, .slice (some ⟨g, 0, none⟩) 2 2] 26) = W6 := hW6
    obtain ⟨N, hN⟩ : ∃ N, W5.heap.size = N := ⟨_, rfl⟩
    rw [hW6] at hb hq6
    rw [hN] at hb
    have HX : Hid (ExU w N g W6) := (⟨hb, hp.q hq6, ht.q (HQ4.out.trans (hq5.trans hq6)), HQ4.out.trans (hq5.trans hq6), by rw [← hN]; have := (HQ4.out.trans hq5).size; omega⟩ : ExU w N g W6)
    clear hp hq5 hb hq6 hW5 hW6 HQ4
    go_upto_region 3 with (fail)
    clear hW5b hW6b hg hN
    have c6 := HX.out.b.c6
    go_step
    refine wpList_load_row rfl 26 (.tmp 3) rfl N (by rfl) 26 _ (0, 0) _ HX.out.b Tryd.underlying26 rfl infoU ?_
    simp only [Act.put, List.setIfInBounds_toArray, List.set_cons_succ, List.set_cons_zero]
    simp only [upL, zU]
    go_wp2_with fail
    refine (HX.out.comp exL exL_ok _ 2 2 0 (by omega) HX.out.p).mono ?_
    intro e w7 hc
    obtain ⟨rfl, hq7⟩ := hc.no ex_c1 (by decide)
    have HX := Lib.hid (HX.out.go hq7)
    clear hc hq7 c6
    have hb8 := BoxV.new w7 zV (.slice none 0 0)
    have hq8 : Q w7 (w7.alloc (.cells (verL zV (.slice none 0 0)).toArray 37)) := (Q.refl _).alloc _
    obtain ⟨W8, hW8⟩ : ∃ W, w7.alloc (.cells (verL zV (.slice none 0 0)).toArray 37) = W := ⟨_, rfl⟩
    have hW8b : w7.alloc (.cells #[.int .i64 0, .bool false, .bool false, .string ⟨#[]⟩, .string ⟨#[]⟩, .int .i64 0, .int .i64 0, .slice none 0 0] 37) = W8 := hW8
    obtain ⟨b8, hN8⟩ : ∃ N, w7.heap.size = N := ⟨_, rfl⟩
    rw [hW8] at hb8 hq8
    rw [hN8] at hb8
    have HX8 := Lib.hid (HX.out.go hq8)
    have hlt8 : w.heap.size ≤ b8 := by rw [← hN8]; exact HX.out.q.size
    have hX9 : ExU w N g (W8.setRow b8 (verL zV (.slice none 0 0)).toArray) := HX.out.go (hq8.below (below_setRow (Below.refl _ _) (by omega) _))
    have HX9 := Lib.hid hX9
    clear hX9 HX8 hq8 hW8 HX
    go_wp2_with (refine wpList_store_row rfl 37 _ _ rfl b8 (verL zV (.slice none 0 0)).toArray (by rfl) (by rfl) 37 _ hb8 infoV rfl (verL_one _ _ rfl) ?_)
    obtain ⟨w9, hw9⟩ : ∃ W, W8.setRow b8 (verL zV (.slice none 0 0)).toArray = W := ⟨_, rfl⟩
    rw [hw9] at HX9 ⊢
    clear hw9 hb8 hN8 hW8b hlt8
    refine wp_flo [0] [(1, []), (2, []), (3, []), (4, [5, 6, 7])] 8 [9, 10] [[0, 4, 5, 6], [0, 4, 5, 7]] (.cells (verL zV (.slice none 0 0)).toArray 37) (by kernel_rfl) (by kernel_rfl) (fun ρ W => by kernel_rfl) ?_
    simp only [wpCh, opsL, List.map_cons, List.map_nil, Array.getD_eq_getD_getElem?, List.getElem?_toArray, List.getElem?_cons_succ, List.getElem?_cons_zero, Option.getD_some]
    refine wpQuiet_load_row rfl 26 (.tmp 3) rfl N (by rfl) 26 (upL zU (.slice (some ⟨g, 0, none⟩) 2 2)).toArray (0, 0) _ (fun w' hw' => by obtain ⟨m, rfl⟩ := hw'; exact (HX9.out.go ((Q.refl w9).drew.trans m.le)).b) Tryd.underlying26 rfl infoU ?_
    simp only [Act.put, List.setIfInBounds_toArray, List.set_cons_succ, List.set_cons_zero]
    simp only [upL, zU]
    refine wpQuiet_nil ?_
    obtain ⟨wd, hwd⟩ : ∃ W, w9.drew = W := ⟨_, rfl⟩
    have hqd : Q w9 wd := by rw [← hwd]; exact (Q.refl w9).drew
    rw [hwd]
    have HX := Lib.hid (HX9.out.go hqd)
    have HXd := HX
    have HQd : Hid (Q wd wd) := (Q.refl wd : Q wd wd)
    clear hwd hqd HX9
    intro W hW K hK
    have HX := Lib.hid (HX.out.go hW)
    have HQd := Lib.hid (HQd.out.trans hW)
    clear hW
    go_wp2_with fail
    refine (of_any 2 3 _).mono ?_
    rintro e w3 ⟨rfl, hq3⟩
    go_wp2_with fail
    refine hK.out _ _ hq3 ?_
    have HX := Lib.hid (HX.out.go hq3)
    have HQd := Lib.hid (HQd.out.trans hq3)
    clear hK K hq3
    refine wpQuiet_nil ?_
    intro W hW K hK
    have HX := Lib.hid (HX.out.go hW)
    have HQd := Lib.hid (HQd.out.trans hW)
    clear hW
    have hv2 : partV (exP 2 3) = .agg #[.int .i64 2, .int .i64 3, .int .i64 0, .string ⟨tagE.toArray⟩, .int .i64 1] := rfl
    rw [hv2]
    clear hv2
    go_wp2_with fail
    refine (of_any 1 15 _).mono ?_
    rintro e w4 ⟨rfl, hq4⟩
    have hv2 : partV (exP 1 15) = .agg #[.int .i64 1, .int .i64 15, .int .i64 0, .string ⟨tagE.toArray⟩, .int .i64 1] := rfl
    rw [hv2]
    clear hv2
    go_wp2_with fail
    refine hK.out _ _ hq4 ?_
    have HX := Lib.hid (HX.out.go hq4)
    have HQd := Lib.hid (HQd.out.trans hq4)
    clear hK K hq4
    refine wpQuiet_nil ?_
    intro W hW K hK
    have HX := Lib.hid (HX.out.go hW)
    have HQd := Lib.hid (HQd.out.trans hW)
    clear hW
    go_wp2_with fail
    have hp := PartsAt.new W [exP 2 3, exP 1 15]
    have hqn : Q W (W.alloc (.cells (cellsP [exP 2 3, exP 1 15]).toArray 31)) := (Q.refl W).alloc _
    obtain ⟨W1, hW1⟩ : ∃ X, W.alloc (.cells (cellsP [exP 2 3, exP 1 15]).toArray 31) = X := ⟨_, rfl⟩
    have hW1b : W.alloc (.cells #[.int .i64 2, .int .i64 3, .int .i64 0, .string ⟨tagE.toArray⟩, .int .i64 1, .int .i64 1, .int .i64 15, .int .i64 0, .string ⟨tagE.toArray⟩, .int .i64 1] 31) = W1 := hW1
    obtain ⟨g4, hg4⟩ : ∃ g, W.heap.size = g := ⟨_, rfl⟩
    try rw [hW1b]
    try rw [hg4]
    rw [hW1, hg4] at hp
    rw [hW1] at hqn
    refine hK.out _ _ hqn ?_
    have HX := Lib.hid (HX.out.go hqn)
    have HQd := Lib.hid (HQd.out.trans hqn)
    have HP := Lib.hid hp
    clear hK K hqn hW1 hW1b hg4 hp
    refine wpQuiet_nil ?_
    intro W hW K hK
    have HX := Lib.hid (HX.out.go hW)
    have HQd := Lib.hid (HQd.out.trans hW)
    have HP := Lib.hid (HP.out.q hW)
    clear hW
    go_wp2_with fail
    refine (HX.out.comp [exP 2 3, exP 1 15] (ex2_ok _ _ _ _) _ 2 2 0 (by omega) HP.out).mono ?_
    intro e w7 hc
    obtain ⟨rfl, hq7⟩ := hc.no ex_c2 (by decide)
    have HX := Lib.hid (HX.out.go hq7)
    have HQd := Lib.hid (HQd.out.trans hq7)
    clear hc
    go_wp2_with fail
    refine hK.out _ _ hq7 ?_
    clear hq7 hK K
    (repeat (go_big_quiet_step (fail)))
    refine wpQuiet_nil ?_
    intro W b hW hb hN2
    have HX := Lib.hid (HX.out.go hW)
    have HQd := Lib.hid (HQd.out.trans hW)
    have HX9 := Lib.hid (HXd.out.go (HQd.out.below (below_setRow (Below.refl _ _) hN2 (verL zV (.slice none 0 0)).toArray)))
    have hBV : BoxV W b zV (.slice none 0 0) := hb
    clear hN2 hb HQd HXd HX HP
    clear hW
    go_wp2_with (refine wpList_store_row rfl 37 _ _ rfl b (verL zV (.slice none 0 0)).toArray (by rfl) (by rfl) 37 _ hBV infoV rfl (verL_one _ _ rfl) ?_)
    refine NoPanic.normal ?_
    obtain ⟨w10, hw10⟩ : ∃ X, W.setRow b (verL zV (.slice none 0 0)).toArray = X := ⟨_, rfl⟩
    rw [hw10] at HX9 ⊢
    clear hw10 hBV
    go_upto_region 5 with (fail)
    have hN9 := HX9.out.n
    refine wp_flo [0] [(1, []), (2, []), (3, [4, 5, 6])] 7 [8, 9] [[0, 3, 4, 5], [0, 3, 4, 6]] (.cells (verL zV (.slice none 0 0)).toArray 37) (by kernel_rfl) (by kernel_rfl) (fun ρ W => by kernel_rfl) ?_
    simp only [wpCh, opsL, List.map_cons, List.map_nil, Array.getD_eq_getD_getElem?, List.getElem?_toArray, List.getElem?_cons_succ, List.getElem?_cons_zero, Option.getD_some]
    refine wpQuiet_load_row rfl 26 (.tmp 3) rfl N (by rfl) 26 (upL zU (.slice (some ⟨g, 0, none⟩) 2 2)).toArray (0, 0) _ (fun w' hw' => by obtain ⟨m, rfl⟩ := hw'; exact (HX9.out.go ((Q.refl w10).drew.trans m.le)).b) Tryd.underlying26 rfl infoU ?_
    simp only [Act.put, List.setIfInBounds_toArray, List.set_cons_succ, List.set_cons_zero]
    simp only [upL, zU]
    refine wpQuiet_nil ?_
    obtain ⟨wd, hwd⟩ : ∃ W, w10.drew = W := ⟨_, rfl⟩
    have hqd : Q w10 wd := by rw [← hwd]; exact (Q.refl w10).drew
    rw [hwd]
    have HX := Lib.hid (HX9.out.go hqd)
    have HXd := HX
    have HQd : Hid (Q wd wd) := (Q.refl wd : Q wd wd)
    clear hwd hqd HX9
    intro W hW K hK
    have HX := Lib.hid (HX.out.go hW)
    have HQd := Lib.hid (HQd.out.trans hW)
    clear hW
    go_wp2_with fail
    refine (of_any 2 0 _).mono ?_
    rintro e w3 ⟨rfl, hq3⟩
    have hv2 : partV (exP 2 0) = .agg #[.int .i64 2, .int .i64 0, .int .i64 0, .string ⟨tagE.toArray⟩, .int .i64 1] := rfl
    rw [hv2]
    clear hv2
    go_wp2_with fail
    refine hK.out _ _ hq3 ?_
    have HX := Lib.hid (HX.out.go hq3)
    have HQd := Lib.hid (HQd.out.trans hq3)
    clear hK K hq3
    refine wpQuiet_nil ?_
    intro W hW K hK
    have HX := Lib.hid (HX.out.go hW)
    have HQd := Lib.hid (HQd.out.trans hW)
    clear hW
    go_wp2_with fail
    have hp := PartsAt.new W [exP 2 0]
    have hqn : Q W (W.alloc (.cells (cellsP [exP 2 0]).toArray 31)) := (Q.refl W).alloc _
    obtain ⟨W1, hW1⟩ : ∃ X, W.alloc (.cells (cellsP [exP 2 0]).toArray 31) = X := ⟨_, rfl⟩
    have hW1b : W.alloc (.cells #[.int .i64 2, .int .i64 0, .int .i64 0, .string ⟨tagE.toArray⟩, .int .i64 1] 31) = W1 := hW1
    obtain ⟨g4, hg4⟩ : ∃ g, W.heap.size = g := ⟨_, rfl⟩
    try rw [hW1b]
    try rw [hg4]
    rw [hW1, hg4] at hp
    rw [hW1] at hqn
    refine hK.out _ _ hqn ?_
    have HX := Lib.hid (HX.out.go hqn)
    have HQd := Lib.hid (HQd.out.trans hqn)
    have HP := Lib.hid hp
    clear hK K hqn hW1 hW1b hg4 hp
    refine wpQuiet_nil ?_
    intro W hW K hK
    have HX := Lib.hid (HX.out.go hW)
    have HQd := Lib.hid (HQd.out.trans hW)
    have HP := Lib.hid (HP.out.q hW)
    clear hW
    go_wp2_with fail
    refine (HX.out.comp [exP 2 0] (ex1_ok _ _) _ 1 1 7 (by omega) HP.out).mono ?_
    intro e w7 hc
    obtain ⟨v7, rfl, ho7, hq7⟩ := hc.yes ex_c3
    obtain ⟨T7, hT7⟩ : ∃ T7, etagL (pickL exL [exP 2 0]) = T7 := ⟨_, rfl⟩
    have hvv : verV (compV [] (pickL exL [exP 2 0]) 7) v7 = .agg #[.int .i64 0, .bool false, .bool false, .string ⟨T7.toArray⟩, .string ⟨#[]⟩, .int .i64 3, .int .i64 7, v7] := by rw [← hT7]; rfl
    rw [hvv]
    have hv1 := ho7.one
    have HX := Lib.hid (HX.out.go hq7)
    have HQd := Lib.hid (HQd.out.trans hq7)
    clear hc hT7 hvv ho7
    go_wp2_with fail
    refine hK.out _ _ hq7 ?_
    clear hq7 hK K
    (repeat (go_big_quiet_step (fail)))
    refine wpQuiet_nil ?_
    intro W b2 hW hb hN2
    have HX := Lib.hid (HX.out.go hW)
    have HQd := Lib.hid (HQd.out.trans hW)
    have HX9 := Lib.hid (HXd.out.go (HQd.out.below (below_setRow (Below.refl _ _) hN2 (verL ⟨0, false, false, T7, [], 3, 7⟩ v7).toArray)))
    have hBV : BoxV W b2 zV (.slice none 0 0) := hb
    have hBW : BoxV (W.setRow b2 (verL ⟨0, false, false, T7, [], 3, 7⟩ v7).toArray) b2 ⟨0, false, false, T7, [], 3, 7⟩ v7 := setRow_heap W _ _ _ _ _ hBV
    have HBW := Lib.hid hBW
    clear hN2 hb HQd HXd HX HP hBW hW
    go_wp2_with (refine wpList_store_row rfl 37 _ _ rfl b2 (verL ⟨0, false, false, T7, [], 3, 7⟩ v7).toArray (by rfl) (by rfl) 37 _ hBV infoV rfl (verL_one _ _ hv1) ?_)
    refine NoPanic.normal ?_
    obtain ⟨w11, hw11⟩ : ∃ X, W.setRow b2 (verL ⟨0, false, false, T7, [], 3, 7⟩ v7).toArray = X := ⟨_, rfl⟩
    rw [hw11] at HX9 HBW ⊢
    clear hw11 hBV hv1
    go_upto_region 6 with (fail)
    go_step
    refine wpList_load_row rfl 26 (.tmp 3) rfl N (by rfl) 26 (upL zU (.slice (some ⟨g, 0, none⟩) 2 2)).toArray (0, 0) _ HX9.out.b Tryd.underlying26 rfl infoU ?_
    simp only [Act.put, List.setIfInBounds_toArray, List.set_cons_succ, List.set_cons_zero]
    simp only [upL, zU]
    go_wp2_with fail
    have hPg : Calls Tryd.prog 20 #[.agg #[.int .i64 0, .string ⟨#[]⟩, .string ⟨#[]⟩, .string ⟨#[]⟩, .string ⟨#[]⟩, .int .i64 0, .slice (some ⟨g, 0, none⟩) 2 2], .int .i64 1, .int .i64 1] w11 _ := Page_any zU (some ⟨g, 0, none⟩) 2 2 exL 1 1 w11 HX9.out.p (by omega)
    refine hPg.mono ?_
    rintro e w12 ⟨⟨v12, rfl, ho12⟩, hq12⟩
    have hm : moreB exL 1 1 = false := ex_more
    have hpg : pageL exL 1 1 = [exP 2 3] := ex_page
    rw [hm]
    rw [hpg] at ho12
    obtain ⟨A12, c12, rfl, hl12, hc12, hP12, hown12⟩ := ho12.parts
    have HOW12 := Lib.hid hown12
    have HP12 := Lib.hid hP12
    have HX12 := Lib.hid (HX9.out.go hq12)
    have HBW := Lib.hid (HBW.out.q hq12)
    clear hPg ho12 hq12 hm hpg hP12 HX9 hown12
    go_upto_region 7 with (fail)
    refine wp_flo [0] [(1, []), (2, [3, 4, 5])] 6 [7, 8] [[0, 2, 3, 4], [0, 2, 3, 5]] (.cells (upL zU (.slice none 0 0)).toArray 26) (by kernel_rfl) (by kernel_rfl) (fun ρ W => by kernel_rfl) ?_
    simp only [wpCh, opsL, List.map_cons, List.map_nil, Array.getD_eq_getD_getElem?, List.getElem?_toArray, List.getElem?_cons_succ, List.getElem?_cons_zero, Option.getD_some]
    refine wpQuiet_load_row rfl 26 (.tmp 3) rfl N (by rfl) 26 (upL zU (.slice (some ⟨g, 0, none⟩) 2 2)).toArray (0, 0) _ (fun w' hw' => by obtain ⟨m, rfl⟩ := hw'; exact (HX12.out.go ((Q.refl w12).drew.trans m.le)).b) Tryd.underlying26 rfl infoU ?_
    simp only [Act.put, List.setIfInBounds_toArray, List.set_cons_succ, List.set_cons_zero]
    simp only [upL, zU]
    refine wpQuiet_nil ?_
    obtain ⟨wd, hwd⟩ : ∃ W, w12.drew = W := ⟨_, rfl⟩
    have hqd : Q w12 wd := by rw [← hwd]; exact (Q.refl w12).drew
    rw [hwd]
    have HX := Lib.hid (HX12.out.go hqd)
    have HBW := Lib.hid (HBW.out.q hqd)
    have HP12 := Lib.hid (HP12.out.q hqd)
    have HXd := HX
    have HQd : Hid (Q wd wd) := (Q.refl wd : Q wd wd)
    clear hwd hqd HX12
    intro W hW K hK
    have HX := Lib.hid (HX.out.go hW)
    have HQd := Lib.hid (HQd.out.trans hW)
    clear hW
    go_wp2_with fail
    refine (of_any 1 16 _).mono ?_
    rintro e w3 ⟨rfl, hq3⟩
    have hv2 : partV (exP 1 16) = .agg #[.int .i64 1, .int .i64 16, .int .i64 0, .string ⟨tagE.toArray⟩, .int .i64 1] := rfl
    rw [hv2]
    clear hv2
    go_wp2_with fail
    refine hK.out _ _ hq3 ?_
    have HX := Lib.hid (HX.out.go hq3)
    have HQd := Lib.hid (HQd.out.trans hq3)
    clear hK K hq3
    refine wpQuiet_nil ?_
    intro W hW K hK
    have HX := Lib.hid (HX.out.go hW)
    have HQd := Lib.hid (HQd.out.trans hW)
    clear hW
    go_wp2_with fail
    have hPu : Calls Tryd.prog 10 #[.agg #[.int .i64 0, .string ⟨#[]⟩, .string ⟨#[]⟩, .string ⟨#[]⟩, .string ⟨#[]⟩, .int .i64 0, .slice (some ⟨g, 0, none⟩) 2 2], .agg #[.int .i64 1, .int .i64 16, .int .i64 0, .string ⟨tagE.toArray⟩, .int .i64 1]] W _ := Put_any zU (some ⟨g, 0, none⟩) 2 2 exL (exP 1 16) W HX.out.p exL_ok (by decide) (by omega)
    refine hPu.mono ?_
    rintro e w7 ⟨h1 | h1, hq7⟩
    · obtain ⟨_, v7, rfl, ho7⟩ := h1
      have hpu : putL exL (exP 1 16) = [exP 1 16, exP 2 3] := ex_put
      rw [hpu] at ho7
      have hvv : upV zU v7 = .agg #[.int .i64 0, .string ⟨#[]⟩, .string ⟨#[]⟩, .string ⟨#[]⟩, .string ⟨#[]⟩, .int .i64 0, v7] := rfl
      rw [hvv]
      obtain ⟨A7, c7, rfl, hl7, hc7, hP7, hown7⟩ := ho7.parts
      have HX := Lib.hid (HX.out.go hq7)
      have HQd := Lib.hid (HQd.out.trans hq7)
      have HO7 := Lib.hid ho7
      clear hPu hvv ho7 hpu
      go_wp2_with fail
      refine hK.out _ _ hq7 ?_
      clear hq7 hK K
      (repeat (go_big_quiet_step (fail)))
      refine wpQuiet_nil ?_
      intro W2 b3 hW hb hN2
      have HQd := Lib.hid (HQd.out.trans hW)
      have HO7 := Lib.hid (HO7.out.q hW)
      have hBV : BoxU W2 b3 zU (.slice none 0 0) := hb
      have hBW3 : BoxU (W2.setRow b3 (upL zU (.slice A7 2 c7)).toArray) b3 zU (.slice A7 2 c7) := setRow_heap W2 _ _ _ _ _ hBV
      have hqs : Q wd (W2.setRow b3 (upL zU (.slice A7 2 c7)).toArray) := HQd.out.below (below_setRow (Below.refl _ _) hN2 (upL zU (.slice A7 2 c7)).toArray)
      have HX9 := Lib.hid (HXd.out.go hqs)
      have HBW9 := Lib.hid (HBW.out.q hqs)
      have HP9 := Lib.hid (HP12.out.q hqs)
      have HO9 : Hid (OwnP W (W2.setRow b3 (upL zU (.slice A7 2 c7)).toArray) (.slice A7 2 c7) [exP 1 16, exP 2 3]) := (HO7.out.g (row := some b3) (w' := W2.setRow b3 (upL zU (.slice A7 2 c7)).toArray) ⟨rfl, rfl, rfl, by simp [World.setRow], fun b _ hb => setRow_other _ _ b _ (fun e => hb (by rw [e]))⟩ (fun b hb e => by
        cases e
        rcases HO7.out.2 with ⟨h0, _⟩ | ⟨g', cap', cur, hv', _, hh, _⟩
        · injection h0 with e1 e2 e3
          subst e1; cases hb
        · injection hv' with e1 e2 e3
          subst e1
          have : g' = b3 := by cases hb; rfl
          subst this
          have h2 := hh.symm.trans hBV
          cases h2) : OwnP W (W2.setRow b3 (upL zU (.slice A7 2 c7)).toArray) (.slice A7 2 c7) [exP 1 16, exP 2 3])
      have HB3 := Lib.hid hBW3
      clear hN2 hb HQd HXd HX HP12 HBW hBW3 hW hqs hP7 hown7 HO7
      go_wp2_with (refine wpList_store_row rfl 26 _ _ rfl b3 (upL zU (.slice A7 2 c7)).toArray (by rfl) (by rfl) 26 _ hBV infoU rfl (upL_one _ _ rfl) ?_)
      refine NoPanic.normal ?_
      obtain ⟨w13, hw13⟩ : ∃ X, W2.setRow b3 (upL zU (.slice A7 2 c7)).toArray = X := ⟨_, rfl⟩
      rw [hw13] at HX9 HBW9 HP9 HO9 HB3 ⊢
      clear hw13 hBV
      have k5 := HBW9.out.c5
      have k6 := HBW9.out.cs 6 _ rfl
      obtain ⟨g6, off6, hA6, d0, d1, _⟩ := HP9.out.at (j := 0) (by decide)
      subst hA6
      obtain ⟨hoff6, _⟩ := HOW12.out _ _ rfl
      subst hoff6
      have k3 := HB3.out.c6
      obtain ⟨A9, c9, hv9, hl9, hc9, hP9, hown9⟩ := HO9.out.parts
      cases hv9
      obtain ⟨g9, off9, hA9, e0, e1, _⟩ := hP9.at (j := 0) (by decide)
      subst hA9
      obtain ⟨hoff9, _⟩ := hown9 _ _ rfl
      subst hoff9
      clear hown9
      have hz : gP [exP 2 3] 0 = exP 2 3 := rfl
      have hz9 : gP [exP 1 16, exP 2 3] 0 = exP 1 16 := rfl
      rw [hz] at d0
      rw [hz9] at e1
      simp only [exP, Nat.zero_mul, Nat.add_zero] at d0 e1
      clear hz hz9 d1 e0 hP9
      simp only at k5 k6
      go_wp2_with fail
      go_ret
      exact ⟨rfl, HX9.out.q⟩
    · exact absurd h1.1 (by have h1 : rightB exL = true := ex_right; rw [h1, ex_may 1 16 (by omega) (by omega)]; simp)
  · exact absurd h1.1 (by rw [ex_etagB]; simp)
end Go.Proofs.YtbhgekhcpagkoaaDoor
