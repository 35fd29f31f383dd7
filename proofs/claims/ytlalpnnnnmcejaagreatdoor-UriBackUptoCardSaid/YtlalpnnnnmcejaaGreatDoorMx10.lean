/- Texts of this proof, laid into one: Flo, VaF, VaL. -/
import Derived.Test.YtlalpnnnnmcejaaGreatDoorMx09
import Derived.Deep.RegionHeld3
/- A region that draws its order and holds one alloc that may come up at any time beside a chain of calls: v, e := f(g(..)). -/
set_option linter.unusedVariables false
namespace Go.Proofs.YtlalpnnnnmcejaaGreatDoor
open Go Go.RowKit
section
variable {P : Program} {ops : Array Oper} {R : Exit → Act → World → Prop}
/-- An operation that does not look at z's slot does the same behind z. -/
theorem wpOp_set {j : Nat} {oz oj : Oper} {v : Value} (hj : ops[j]? = some oj) (hap : oz.apart ops oj = true) (hsj : ∀ cs b, oj.op ≠ .select cs b)
    (hQ : ∀ c a w, R (.panic c) a w → R (.panic c) (a.put oz.dst v) w) {K : Act → World → Prop} {a : Act} {w : World}
    (h : wpOp P ops R j K a w) : wpOp P ops R j (fun a' w' => ∃ a0, a' = Act.put a0 oz.dst v ∧ K a0 w') (a.put oz.dst v) w := by
  obtain ⟨h1, h2, h3⟩ := Oper.apart_spec hap
  unfold wpOp at *
  simp only [hj] at *
  rw [wanted_put oj a oz.dst v h1]
  split
  · rename_i hw
    simp only [hw, if_true] at h
    rcases h with h | ⟨hasks, hlets⟩
    case inr => exact .inr ⟨by unfold Oper.asks at *; rw [execOp_put oj hsj a oz.dst v h1]; exact hasks, hlets⟩
    refine .inl ?_
    unfold Oper.wp at *
    rw [execOp_put oj hsj a oz.dst v h1]
    generalize (execOp a.eval oj).run P w = r at *
    cases r with
    | ok n w' =>
      cases n <;> simp only [Oper.upon] at h ⊢
      case value u => exact ⟨_, Act.put_comm a v u h2, h⟩
      case skip => exact ⟨_, Act.put_comm a v undef h2, h⟩
      case defer d => exact ⟨_, by rw [Act.put_defers, Act.put_comm _ v undef h2], h⟩
      case enter f args =>
        refine Calls.mono h fun e w'' he => ?_
        cases e with
        | returned u => exact ⟨_, Act.put_comm a v u h2, he⟩
        | panicked c => exact hQ _ _ _ he
        | outgrown => exact he
      case row row args => exact Rows.mono h fun u w'' he => ⟨_, Act.put_comm a v u h2, he⟩
    | halt x w' =>
      cases x <;> simp only [Oper.upon] at h ⊢
      case panic u => exact hQ _ _ _ h
  · rename_i hw
    simp only [hw] at h
    exact ⟨_, Act.put_comm a v undef h2, h⟩
/-- A chain, each of whose members is shown in whatever world has grown from the one at hand; behind each some pure operations. -/
def wpCh (P : Program) (ops : Array Oper) (R : Exit → Act → World → Prop) (E : Act → World → Prop) : List (Oper × List Oper) → Act → World → Prop
  | [], a, w => E a w
  | (o, q) :: r, a, w => ∀ W, Q w W → ∀ K : Act → World → Prop, Hid (∀ a' w', Q W w' → wpQuiet P ops (fun _ => True) (fun a'' => wpCh P ops R E r a'' w') q a' → K a' w') → wpList P ops (Exit.then K R) [o] a W
/-- The end of it: the alloc's block stands somewhere. -/
def wpChE (P : Program) (ops : Array Oper) (R : Exit → Act → World → Prop) (N : Nat) (obj : Obj) (zd : Option Tmp) (zs : List Oper) (a : Act) (w : World) : Prop :=
  ∀ W b, Q w W → W.heap[b]? = some obj → N ≤ b → wpList P ops R zs (a.put zd (.pointer (some ⟨b, 0, none⟩))) W
theorem wpQuiet_set {T : World → Prop} {K : Act → Prop} {oz : Oper} {v : Value} (l : List Oper) : ∀ (a : Act), (∀ o ∈ l, oz.apart ops o = true) → (∀ o ∈ l, ∀ cs b, o.op ≠ .select cs b) →
    wpQuiet P ops T K l a → wpQuiet P ops T (fun a' => ∃ a0, a' = Act.put a0 oz.dst v ∧ K a0) l (a.put oz.dst v) := by
  induction l with
  | nil => intro a _ _ h; exact ⟨a, rfl, h⟩
  | cons o r ih =>
    intro a hap hse h
    obtain ⟨h1, h2, h3⟩ := Oper.apart_spec (hap o (by simp))
    have ihr := fun a h => ih a (fun o ho => hap o (List.mem_cons_of_mem _ ho)) (fun o ho => hse o (List.mem_cons_of_mem _ ho)) h
    unfold wpQuiet at h ⊢
    rw [wanted_put o a oz.dst v h1]
    split at h
    · next hw =>
      rw [if_pos hw]
      obtain ⟨x, hx, hn⟩ := h
      refine ⟨x, fun w hw => ?_, ?_⟩
      · have := hx w hw
        unfold Oper.quietAt at this ⊢
        rw [execOp_put o (hse o (by simp)) a oz.dst v h1]
        exact this
      · rw [Act.put_comm a v x h2]; exact ihr _ hn
    · next hw =>
      rw [if_neg hw, Act.put_comm a v undef h2]; exact ihr _ h
variable {w0 : World} {obj : Obj} {z : Nat} {oz : Oper} {zs : List Nat}
def opsL (ops : Array Oper) (tl : List (Nat × List Nat)) : List (Oper × List Oper) := tl.map fun p => (ops.getD p.1 default, p.2.map (ops.getD · default))
def lenC : List (Nat × List Nat) → Nat
  | [] => 0
  | (k, q) :: r => q.length + lenC r + 1
def sB (ops : Array Oper) (zs : List Nat) : List (Nat × List Nat) → Array Bool → Bool
  | [], ls => tailB .any ops zs ls && (Region.ready .any ops ls).all fun i => zs.contains i
  | (k, q) :: r, ls => decide (Region.ready .any ops ls = [k]) && (ops[k]?).isSome && pureB .any ops q (ls.setIfInBounds k true) && sB ops zs r (markB q (ls.setIfInBounds k true))
def apB (ops : Array Oper) (oz : Oper) (zs : List Nat) (tl : List (Nat × List Nat)) : Bool :=
  tl.all fun p => (p.1 :: p.2).all fun i => !zs.contains i && match ops[i]? with | some o => oz.apart ops o | none => false
theorem noSel_mem (hsel : Region.noSelect ops = true) {i : Nat} (h : (ops[i]?).isSome = true) : ∀ cs b, (ops.getD i default).op ≠ .select cs b := by
  obtain ⟨o, ho⟩ := Option.isSome_iff_exists.1 h
  have hk : ops.getD i default = o := by simp [Array.getD_eq_getD_getElem?, ho]
  rw [hk]; exact fun cs b => Region.noSelect_spec hsel i o cs b ho
theorem flo_B (hsel : Region.noSelect ops = true) (hQ1 : ∀ c a d v w, R (.panic c) (Act.put a d v) w → R (.panic c) a w) (hQ : ∀ c a d v w, R (.panic c) a w → R (.panic c) (Act.put a d v) w) (tl : List (Nat × List Nat)) : ∀ (ls : Array Bool) (a : Act) (w W : World) (b : Nat), ClosedL ops ls →
    apB ops oz zs tl = true → sB ops zs tl ls = true → Q w0 w → Q w W → W.heap[b]? = some obj → w0.heap.size ≤ b →
    wpCh P ops R (wpChE P ops R w0.heap.size obj oz.dst (zs.map (ops.getD · default))) (opsL ops tl) a w → wpAnyZ P ops R (fun w' => ∃ m : QW w0, w' = m.val) zs (lenC tl + zs.length) ls (a.put oz.dst (.pointer (some ⟨b, 0, none⟩))) W := by
  induction tl with
  | nil =>
    intro ls a w W b _ _ hB h0 hW hb hN h
    simp only [sB, Bool.and_eq_true] at hB
    have h1 := wpAny_of_held _ _ _ _ (any_tail zs ls _ W hB.1 (h W b hW hb hN))
    have e : lenC [] + zs.length = zs.length := by simp [lenC]
    rw [e]
    generalize zs.length = f at h1
    cases f with
    | zero => exact h1
    | succ f =>
      refine ⟨h1.1, fun i hi => wpOp_mono (fun a' w' h' => ?_) (h1.2 i hi)⟩
      rw [if_pos (by simpa using List.all_eq_true.1 hB.2 i hi)]
      exact h'
  | cons p r ih =>
    obtain ⟨k, q⟩ := p
    intro ls a w W b inv hap hB h0 hW hb hN h
    simp only [sB, Bool.and_eq_true, decide_eq_true_eq] at hB
    obtain ⟨⟨⟨b1, b2⟩, b3⟩, b4⟩ := hB
    have hap2 : apB ops oz zs r = true := by
      unfold apB at hap ⊢; rw [List.all_cons, Bool.and_eq_true] at hap; exact hap.2
    have hapk : ∀ i ∈ k :: q, i ∉ zs ∧ ∃ o, ops[i]? = some o ∧ oz.apart ops o = true := fun i hi => by
      unfold apB at hap; rw [List.all_cons, Bool.and_eq_true] at hap
      have := List.all_eq_true.1 hap.1 i hi
      simp only [Bool.and_eq_true] at this
      refine ⟨fun e => (by have := this.1; rw [List.contains_iff_mem.2 e] at this; cases this), ?_⟩
      cases ho : ops[i]? with
      | none => rw [ho] at this; exact absurd this.2 (by simp)
      | some o => rw [ho] at this; exact ⟨o, rfl, this.2⟩
    have e : lenC ((k, q) :: r) + zs.length = (q.length + (lenC r + zs.length)) + 1 := by simp [lenC]; omega
    rw [e]
    refine ⟨fun hn => (by rw [b1] at hn; cases hn), fun i hi => ?_⟩
    have hi' := hi
    rw [b1] at hi
    have e : i = k := by simpa using hi
    subst e
    obtain ⟨hizs, o, ho, hapo⟩ := hapk i (by simp)
    have hk : ops.getD i default = o := by simp [Array.getD_eq_getD_getElem?, ho]
    have h2 : wpCh P ops R (wpChE P ops R w0.heap.size obj oz.dst (zs.map (ops.getD · default))) ((o, q.map (ops.getD · default)) :: opsL ops r) a w := by
      have := h
      simp only [opsL, List.map_cons, hk] at this
      exact this
    have h1 : wpOp P ops R i (fun a' w' => Q W w' ∧ wpQuiet P ops (fun _ => True) (fun a'' => wpCh P ops R (wpChE P ops R w0.heap.size obj oz.dst (zs.map (ops.getD · default))) (opsL ops r) a'' w') (q.map (ops.getD · default)) a') a W :=
      wpOp_of_one ho (h2 W hW _ (fun a' w' hq h' => ⟨hq, h'⟩))
    refine wpOp_mono (fun a' w' h' => ?_) (wpOp_set (oz := oz) ho hapo (fun cs b => Region.noSelect_spec hsel i o cs b ho) (fun c a w => hQ c a _ _ w) h1)
    obtain ⟨a1, rfl, hq, hc⟩ := h'
    rw [if_neg hizs]
    have h0w : Q w0 w' := (h0.trans hW).trans hq
    refine ⟨⟨⟨w', h0w⟩, rfl⟩, ?_⟩
    refine headZ hsel hQ1 (T := fun _ => True) (fun _ _ => trivial) q (.inr fun _ => trivial) _ w' ⟨⟨w', h0w⟩, rfl⟩ _ _ (inv.set hi') (fun j hj => (hapk j (List.mem_cons_of_mem _ hj)).1) b3 ?_
    refine wpQuiet_mono (fun a'' h'' inv' => ?_) _ _ (wpQuiet_set (oz := oz) (v := .pointer (some ⟨b, 0, none⟩)) _ a1 (fun o ho => ?_) (fun o ho => ?_) hc)
    · obtain ⟨a2, rfl, h3⟩ := h''
      exact ih _ a2 w' w' b inv' hap2 b4 h0w (Q.refl _) (hq.block hb) hN h3
    · obtain ⟨j, hj, rfl⟩ := List.mem_map.1 ho
      obtain ⟨_, o2, ho2, hap3⟩ := hapk j (List.mem_cons_of_mem _ hj)
      have : ops.getD j default = o2 := by simp [Array.getD_eq_getD_getElem?, ho2]
      rw [this]; exact hap3
    · obtain ⟨j, hj, rfl⟩ := List.mem_map.1 ho
      obtain ⟨_, o2, ho2, _⟩ := hapk j (List.mem_cons_of_mem _ hj)
      exact noSel_mem hsel (by rw [ho2]; rfl)
def floB (ops : Array Oper) (z : Nat) (zs : List Nat) : List (Nat × List Nat) → Array Bool → Bool
  | [], ls => decide (Region.ready .any ops ls = [z]) && sB ops zs [] (ls.setIfInBounds z true)
  | (k, q) :: r, ls => (Region.ready .any ops ls).contains k && (Region.ready .any ops ls).contains z && (Region.ready .any ops ls).all (fun i => i == k || i == z) && sB ops zs ((k, q) :: r) (ls.setIfInBounds z true)
      && pureB .any ops q (ls.setIfInBounds k true) && floB ops z zs r (markB q (ls.setIfInBounds k true))
theorem flo_A (hsel : Region.noSelect ops = true) (hQ1 : ∀ c a d v w, R (.panic c) (Act.put a d v) w → R (.panic c) a w) (hQ : ∀ c a d v w, R (.panic c) a w → R (.panic c) (Act.put a d v) w) (hz : ops[z]? = some oz) (hgd : oz.guard = none) (hzz : z ∉ zs)
    (hrun : ∀ (ρ : Operand → Value) (W : World), (execOp ρ oz).run P W = .ok (.value (.pointer (some ⟨W.heap.size, 0, none⟩))) (W.alloc obj)) (tl : List (Nat × List Nat)) : ∀ (ls : Array Bool) (a : Act) (w : World), ClosedL ops ls →
    apB ops oz zs tl = true → floB ops z zs tl ls = true → Q w0 w →
    wpCh P ops R (wpChE P ops R w0.heap.size obj oz.dst (zs.map (ops.getD · default))) (opsL ops tl) a w → wpAnyZ P ops R (fun w' => ∃ m : QW w0, w' = m.val) zs (lenC tl + 1 + zs.length) ls a w := by
  have hzop : ∀ (K : Act → World → Prop) (a : Act) (W : World), K (a.put oz.dst (.pointer (some ⟨W.heap.size, 0, none⟩))) (W.alloc obj) → wpOp P ops R z K a W := by
    intro K a W h
    unfold wpOp
    simp only [hz]
    have hw : Region.wanted oz (yielded ops a.tmps) = true := by simp [Region.wanted, hgd]
    simp only [hw, if_true, Oper.wp, hrun, Oper.upon]
    exact .inl h
  have hzdo : ∀ (tl : List (Nat × List Nat)) (ls : Array Bool) (a : Act) (w : World), ClosedL ops ls → z ∈ Region.ready .any ops ls → apB ops oz zs tl = true → sB ops zs tl (ls.setIfInBounds z true) = true → Q w0 w →
      wpCh P ops R (wpChE P ops R w0.heap.size obj oz.dst (zs.map (ops.getD · default))) (opsL ops tl) a w →
      wpOp P ops R z (fun a' w' => if z ∈ zs then wpAny P .any ops R (lenC tl + zs.length) (ls.setIfInBounds z true) a' w' else (fun w' => ∃ m : QW w0, w' = m.val) w' ∧ wpAnyZ P ops R (fun w' => ∃ m : QW w0, w' = m.val) zs (lenC tl + zs.length) (ls.setIfInBounds z true) a' w') a w := by
    intro tl ls a w inv hzr hap hB h0 h
    refine hzop _ _ _ ?_
    rw [if_neg hzz]
    have hq : Q w (w.alloc obj) := (Q.refl w).alloc _
    exact ⟨⟨⟨_, h0.trans hq⟩, rfl⟩, flo_B hsel hQ1 hQ tl (ls.setIfInBounds z true) a w (w.alloc obj) w.heap.size (inv.set hzr) hap hB h0 hq (MapKept.heap_alloc w _).1 h0.size h⟩
  induction tl with
  | nil =>
    intro ls a w inv hap hB h0 h
    simp only [floB, Bool.and_eq_true, decide_eq_true_eq] at hB
    have e : lenC [] + 1 + zs.length = lenC [] + zs.length + 1 := by omega
    rw [e]
    refine ⟨fun hn => (by rw [hB.1] at hn; cases hn), fun i hi => ?_⟩
    have hi' := hi
    rw [hB.1] at hi
    have e : i = z := by simpa using hi
    subst e
    exact hzdo [] ls a w inv hi' hap hB.2 h0 h
  | cons p r ih =>
    obtain ⟨k, q⟩ := p
    intro ls a w inv hap hB h0 h
    simp only [floB, Bool.and_eq_true] at hB
    obtain ⟨⟨⟨⟨⟨b1, b1z⟩, b2⟩, b4⟩, b5⟩, b7⟩ := hB
    have hap2 : apB ops oz zs r = true := by
      unfold apB at hap ⊢; rw [List.all_cons, Bool.and_eq_true] at hap; exact hap.2
    have hapk : ∀ i ∈ k :: q, i ∉ zs ∧ ∃ o, ops[i]? = some o ∧ oz.apart ops o = true := fun i hi => by
      unfold apB at hap; rw [List.all_cons, Bool.and_eq_true] at hap
      have := List.all_eq_true.1 hap.1 i hi
      simp only [Bool.and_eq_true] at this
      refine ⟨fun e => (by have := this.1; rw [List.contains_iff_mem.2 e] at this; cases this), ?_⟩
      cases ho : ops[i]? with
      | none => rw [ho] at this; exact absurd this.2 (by simp)
      | some o => rw [ho] at this; exact ⟨o, rfl, this.2⟩
    have hne : k ∈ Region.ready .any ops ls := by simpa using b1
    have hze : z ∈ Region.ready .any ops ls := by simpa using b1z
    have e1 : lenC ((k, q) :: r) + 1 + zs.length = (lenC ((k, q) :: r) + zs.length) + 1 := by omega
    rw [e1]
    refine ⟨fun hn => (by rw [hn] at hne; cases hne), fun i hi => ?_⟩
    have hik : i = k ∨ i = z := by simpa using List.all_eq_true.1 b2 i hi
    by_cases hiz : i = z
    · subst hiz
      exact hzdo ((k, q) :: r) ls a w inv hi hap b4 h0 h
    · have e : i = k := hik.resolve_right hiz
      subst e
      obtain ⟨hizs, o, ho, _⟩ := hapk i (by simp)
      have hk : ops.getD i default = o := by simp [Array.getD_eq_getD_getElem?, ho]
      have h2 : wpCh P ops R (wpChE P ops R w0.heap.size obj oz.dst (zs.map (ops.getD · default))) ((o, q.map (ops.getD · default)) :: opsL ops r) a w := by
        have := h
        simp only [opsL, List.map_cons, hk] at this
        exact this
      refine wpOp_of_one ho (h2 w (Q.refl _) _ (fun a' w' hq h' => ?_))
      rw [if_neg hizs]
      have h0w : Q w0 w' := h0.trans hq
      refine ⟨⟨⟨w', h0w⟩, rfl⟩, ?_⟩
      have e3 : lenC ((i, q) :: r) + zs.length = q.length + (lenC r + 1 + zs.length) := by simp [lenC]; omega
      rw [e3]
      refine headZ hsel hQ1 (T := fun _ => True) (fun _ _ => trivial) q (.inr fun _ => trivial) _ w' ⟨⟨w', h0w⟩, rfl⟩ _ _ (inv.set hi) (fun j hj => (hapk j (List.mem_cons_of_mem _ hj)).1) b5 ?_
      exact wpQuiet_mono (fun a'' h'' inv' => ih _ a'' w' inv' hap2 b7 h0w h'') _ _ h'
/-- Each is waited for by one behind it, or by y. -/
def sinkR (ops : Array Oper) (y : Nat) : List Nat → Bool
  | [] => true
  | i :: r => (r ++ [y]).any (fun j => Region.waitsFor .any ops j i) && sinkR ops y r
theorem sinkR_all {y : Nat} {ls : Array Bool} (inv : ClosedL ops ls) (hy : y ∈ Region.ready .any ops ls) (qs : List Nat) : (∀ i ∈ qs, i < ops.size) → sinkR ops y qs = true → ∀ i ∈ qs, ls.getD i true = true := by
  induction qs with
  | nil => intro _ _ i hi; cases hi
  | cons a r ih =>
    intro hsz hs i hi
    simp only [sinkR, Bool.and_eq_true] at hs
    have ihr := ih (fun i hi => hsz i (List.mem_cons_of_mem _ hi)) hs.2
    rcases List.mem_cons.1 hi with e | e
    · subst e
      obtain ⟨j, hj, hj2⟩ := List.any_eq_true.1 hs.1
      obtain ⟨oj, hoj, e, he, hb, hon⟩ := Region.waitsFor_spec hj2
      cases hun : ls.getD i true with
      | true => rfl
      | false =>
        exfalso
        rcases List.mem_append.1 hj with hjr | hjy
        · have hjl : ls.getD j false = true := by
            have h1 := ihr j hjr
            have hjs : j < ls.size := by rw [inv.size]; exact hsz j (List.mem_cons_of_mem _ hjr)
            simpa [hjs] using h1
          have h2 := inv.closed j oj hoj hjl e he hb
          rw [hon, getD_both hun] at h2
          cases h2
        · have : j = y := by simpa using hjy
          subst this
          obtain ⟨_, oz, hoz, hall⟩ := mem_ready.1 hy
          have : oj = oz := Option.some.inj (hoj.symm.trans hoz)
          subst this
          have h2 := hall e he hb
          rw [hon, getD_both hun] at h2
          cases h2
    · exact ihr i e
end
def chIdx (tl : List (Nat × List Nat)) : List Nat := tl.flatMap fun p => p.1 :: p.2
/-- hd: reads, taken first; tl: a chain (calls, mostly), behind each of its members some pure operations; z: the alloc, which may come up beside any of them; zs: the end. ws: per member of the end, a chain of waiting in which the reads stand. -/
theorem wp_flo {P : Program} {id : Nat} {R : Exit → Act → World → Prop} {a : Act} {w : World} {l : List Oper} (hd : List Nat) (tl : List (Nat × List Nat)) (z : Nat) (zs : List Nat) (ws : List (List Nat)) (obj : Obj) (hm : P.follows .mixedOrders = true)
    (hB : (Region.noSelect l.toArray && pureB .any l.toArray hd (Array.replicate l.length false) && floB l.toArray z zs tl (markB hd (Array.replicate l.length false)) && decide (hd.length + (lenC tl + 1 + zs.length) = l.length)
      && hd.all (fun i => !zs.contains i) && !zs.contains z && ((l.getD z default).guard).isNone && decide (z < l.length) && apB l.toArray (l.getD z default) zs tl
      && (zs.zip ws).all (fun p => sinkR l.toArray p.1 p.2 && p.2.all (fun i => decide (i < l.length)) && hd.all fun i => p.2.contains i) && decide (zs.length = ws.length)) = true)
    (hrun : ∀ (ρ : Operand → Value) (W : World), (execOp ρ (l.getD z default)).run P W = .ok (.value (.pointer (some ⟨W.heap.size, 0, none⟩))) (W.alloc obj))
    (h : wpQuiet P l.toArray (fun w' => ∃ m : QW w.drew, w' = m.val) (fun a' => wpCh P l.toArray (NoPanic R) (wpChE P l.toArray (NoPanic R) w.drew.heap.size obj (l.getD z default).dst (zs.map (l.toArray.getD · default))) (opsL l.toArray tl) a' w.drew) (hd.map (l.toArray.getD · default)) a) : (Code.region id l.toArray true).wp P R a w := by
  refine wp_region_noPanic ?_
  simp only [Bool.and_eq_true, decide_eq_true_eq] at hB
  obtain ⟨⟨⟨⟨⟨⟨⟨⟨⟨⟨h1, h2⟩, h3⟩, h4⟩, h5⟩, h6⟩, h7⟩, h8⟩, h9⟩, h10⟩, h11⟩ := hB
  have hn := not_mem_of h5
  have hQ1 : ∀ c a d v w, NoPanic R (.panic c) (Act.put a d v) w → NoPanic R (.panic c) a w := fun _ _ _ _ _ h => h
  have hQ2 : ∀ c a d v w, NoPanic R (.panic c) a w → NoPanic R (.panic c) (Act.put a d v) w := fun _ _ _ _ _ h => h
  have hzs : ∀ i ∈ hd, ∀ ls, ClosedL l.toArray ls → ls.getD i true = false → ∀ y ∈ zs, y ∉ Region.ready .any l.toArray ls := fun i hi ls inv hun y hy hr => by
    obtain ⟨n, hn, rfl⟩ := List.getElem_of_mem hy
    have hn2 : n < ws.length := by omega
    have g := List.all_eq_true.1 h10 (zs[n], ws[n]) (by
      rw [show (zs[n], ws[n]) = (zs.zip ws)[n]'(by rw [List.length_zip]; omega) by simp]
      exact List.getElem_mem _)
    simp only [Bool.and_eq_true] at g
    have hiw : i ∈ ws[n] := by simpa using List.all_eq_true.1 g.2 i hi
    have := sinkR_all inv hr ws[n] (fun j hj => by have := List.all_eq_true.1 g.1.2 j hj; simpa using this) g.1.1 i hiw
    rw [hun] at this; cases this
  have inv0 : ClosedL l.toArray (Array.replicate l.length false) := ⟨by simp, fun j oj hj hl => by
      rw [Array.getD_eq_getD_getElem?] at hl
      by_cases hjl : j < l.length
      · simp [hjl] at hl
      · simp [hjl] at hl⟩
  have hoz : l.toArray[z]? = some (l.getD z default) := by simp [List.getD_eq_getElem?_getD, h8]
  refine wp_region_any hm (wpAny_of_Z (S := fun w' => ∃ m : QW w.drew, w' = m.val) (zs := zs) _ _ _ _ ?_)
  have := headZ (zs := zs) (S := fun w' => ∃ m : QW w.drew, w' = m.val) (T := fun w' => ∃ m : QW w.drew, w' = m.val) h1 hQ1 (fun _ h => h) hd (.inl hzs) (lenC tl + 1 + zs.length) w.drew ⟨⟨w.drew, Q.refl _⟩, rfl⟩ _ a inv0 (fun i hi => hn i hi) h2
    (wpQuiet_mono (fun a' h' inv' => flo_A h1 hQ1 hQ2 hoz (by simpa using h7) (fun e => by rw [List.contains_iff_mem.2 e] at h6; cases h6) hrun tl _ a' w.drew inv' h9 h3 (Q.refl _) h') _ _ h)
  rw [h4] at this
  exact this
end Go.Proofs.YtlalpnnnnmcejaaGreatDoor
/- The document's Canon. -/
set_option linter.unusedVariables false
set_option linter.unusedSimpArgs false
namespace Go.Proofs.YtlalpnnnnmcejaaGreatDoor
open Go Go.RowKit
theorem bl_lt : ∀ a b : List UInt8, Op.bytesLess a b = true ↔ a < b := by
  intro a
  induction a with
  | nil => intro b; cases b <;> simp [Op.bytesLess]
  | cons x a ih =>
    intro b
    cases b with
    | nil => simp [Op.bytesLess]
    | cons y b =>
      rw [Op.bytesLess, List.cons_lt_cons_iff]
      simp [ih]
theorem ltP_bl (a b : PairD) : ltOf pcmp a b = (Op.bytesLess a.1 b.1 || (a.1 == b.1 && Op.bytesLess a.2 b.2)) := by
  rw [Bool.eq_iff_iff, ltP_iff]
  simp [bl_lt]
theorem join_snoc (xs : List (List UInt8)) (x : List UInt8) (h : xs ≠ []) : Lib.join (xs ++ [x]) [38] = Lib.join xs [38] ++ (38 :: x) := by
  induction xs with
  | nil => exact absurd rfl h
  | cons a r ih =>
    rcases r with _ | ⟨b, r⟩
    · rw [List.singleton_append, join_cons, join_one, join_one]; simp
    · rw [List.cons_append, List.cons_append, join_cons, join_cons, ← List.cons_append, ih (by simp)]; simp
/-- A slice that is being sorted, beside the pair in its box. -/
theorem gU_ins {ys : List PairD} {j : Nat} {x : PairD} (h : j ≤ ys.length) : gU (ys.take j ++ x :: ys.drop j) j = x := by
  have hl : (ys.take j).length = j := by simp; omega
  unfold gU
  rw [List.getD_eq_getElem?_getD, List.getElem?_append_right (by omega), hl]; simp
theorem gU_before {ys : List PairD} {j : Nat} {x : PairD} (h : j + 1 ≤ ys.length) : gU (ys.take (j + 1) ++ x :: ys.drop (j + 1)) j = gU ys j := by
  unfold gU
  rw [List.getD_eq_getElem?_getD, List.getD_eq_getElem?_getD, List.getElem?_append_left (by simp; omega), List.getElem?_take, if_pos (by omega)]
theorem ins_len (ys : List PairD) (j : Nat) (x : PairD) (h : j ≤ ys.length) : (ys.take j ++ x :: ys.drop j).length = ys.length + 1 := by simp; omega
theorem wpList_append_u2 {ops : Array Oper} {rest : List Oper} {o : Oper} {a : Act} {R : Exit → Act → World → Prop} (hgd : o.guard = none) (s x : Operand)
    (ho : o.op = .call { callee := .builtin .append, args := #[s, x], argTypes := #[30, 30] })
    (w0 W : World) (v : Value) (ps : List PairD) (p : PairD) (hs : a.eval s = v) (hown : OwnU w0 W v ps) (hx : a.eval x = .slice (some ⟨W.heap.size, 0, none⟩) 1 1) (hq : w0.heap.size ≤ W.heap.size) (hb : (ps.length + 1) * 32 ≤ 140737488355328)
    (h : ∀ v' w', OwnU w0 w' v' (ps ++ [p]) → W.grownBy w' v.ownBlock → (∀ b, v'.ownBlock = some b → v.ownBlock = some b ∨ W.heap.size ≤ b) → wpList Tryz.prog ops R rest (a.put o.dst v') w') : wpList Tryz.prog ops R (o :: rest) a (W.alloc (.cells (pairL p).toArray 37)) := by
  obtain ⟨i, hi, hz, hsz, hby⟩ := info_parts info_pair
  have hown1 : OwnU w0 (W.alloc (.cells (pairL p).toArray 37)) v ps := hown.q ((Q.refl W).alloc _)
  refine wpList_append_own_at (w := W.alloc (.cells (pairL p).toArray 37)) hgd s x 30 ho w0.heap.size 37 i _ 2 32 Tryz.underlying30 hi hz hsz hby rfl (by decide) v ps.length (cellsU ps) hs hown1 ⟨W.heap.size, 0, none⟩ 1 1 (pairL p) hx rfl ?_ ?_ (by unfold maxLen; omega) hb (by simp; omega) ?_
  · intro j u hj
    have e : (Addr.add ⟨W.heap.size, 0, none⟩ j) = ⟨W.heap.size, j, none⟩ := by unfold Addr.add; split <;> simp_all
    rw [e, cell_of_row _ _ _ _ _ _ (MapKept.heap_alloc W _).1]
    simpa using hj
  · intro u hu
    simp only [pairL, List.mem_cons, List.not_mem_nil, or_false] at hu
    rcases hu with rfl | rfl <;> rfl
  · intro v' w' h2 hg _ hb2
    refine h v' w' ?_ ((World.grownBy_alloc W _ _).trans hg) (fun b hbb => by
      rcases hb2 with h5 | h5
      · exact .inl (h5 ▸ hbb)
      · rw [h5] at hbb; injection hbb with hbb; exact .inr (by simp at hbb; omega))
    unfold OwnU; rw [cellsU_app, cellsU_one, List.length_append]; exact h2
set_option maxRecDepth 100000 in
set_option maxHeartbeats 4000000 in
theorem RCanon_any (A : Option Addr) (n cap : Nat) (ps : List PairD) (w : World) (h : PairsAt w A n ps) (hc : n ≤ cap) (hcap : cap ≤ 9223372036854775807) (hn1 : n ≤ 1100000) (hps : ∀ p ∈ ps, p.1.length ≤ 10000000 ∧ p.2.length ≤ 10000000) :
    Calls Tryz.prog 17 #[.slice A n cap] w fun e w' => e = .returned (.string ⟨(canonL ps).toArray⟩) ∧ Q w w' := by
  obtain rfl := h.1
  have HPS := Lib.hid hps
  have HP := Lib.hid h
  clear hps h
  go_enter Tryz.func17, Tryz.ntmps17
  go_wp2_with fail
  go_loopw [3, 4] (fun v i wr => ∃ (k : Nat) (ys : List PairD), k ≤ ps.length ∧ i = .int .i64 (k : Int) ∧ Hid (ys.length = k) ∧ Hid (OwnU w wr v ys) ∧ Hid (Q w wr) ∧ Hid (UpP ys ∧ ys.Perm ((ps.take k).map encP))) (fun _ i _ => ps.length - (intOf i).toNat)
  case atStart => exact ⟨0, [], by omega, rfl, Lib.hid rfl, Lib.hid (OwnU.nil _ _), Lib.hid (Q.refl _), Lib.hid ⟨List.Pairwise.nil, by simp⟩⟩
  case round =>
    obtain ⟨k, ys, hk, rfl, HYL, HO, HQ, HUP⟩ := hrel
    by_cases hlt : k < ps.length
    · have g1 : decide (k < ps.length) = true := by simpa using hlt
      obtain ⟨g, off, rfl, e0, e1⟩ := (HP.out.q HQ.out).at hlt
      obtain ⟨⟨x, y⟩, hxy⟩ : ∃ p, gU ps k = p := ⟨_, rfl⟩
      rw [hxy] at e0 e1
      simp only at e0 e1
      have HXY : Hid (x.length ≤ 10000000 ∧ y.length ≤ 10000000) := Lib.hid (by
        have hk2 : k < ps.length := hlt
        have e : gU ps k = ps[k] := by simp [gU, List.getD, hk2]
        have := HPS.out _ (List.getElem_mem hk2)
        rw [← e, hxy] at this; exact this)
      have HTK : Hid ((ps.take (k + 1)).map encP = (ps.take k).map encP ++ [encP (x, y)]) := Lib.hid (by rw [take_snocP ps k (by omega), hxy]; simp)
      clear hxy
      have d0 : ∀ m : QW wr.drew, m.val.cell? ⟨g, off + k * 2, none⟩ = some (.string ⟨x.toArray⟩) := fun m => m.cell ((Q.refl _).drew.cell e0)
      have d1 : ∀ m : QW wr.drew, m.val.cell? ⟨g, off + k * 2 + 1, none⟩ = some (.string ⟨y.toArray⟩) := fun m => m.cell ((Q.refl _).drew.cell e1)
      go_upto_region 5 with (fail)
      refine wp_flo [0, 1, 2, 3, 4, 6, 7, 8, 9, 10] [(5, []), (11, [12])] 13 [14] [[0, 1, 2, 3, 4, 5, 6, 7, 8, 9, 10, 11, 12]] (.cells (pairL ([], [])).toArray 37) (by kernel_rfl) (by kernel_rfl) (fun ρ W => by kernel_rfl) ?_
      simp only [wpCh, opsL, List.map_cons, List.map_nil, Array.getD_eq_getD_getElem?, List.getElem?_toArray, List.getElem?_cons_succ, List.getElem?_cons_zero, Option.getD_some]
      (repeat (go_big_quiet_step (fail)))
      refine wpQuiet_nil ?_
      clear d0 d1 e0 e1
      obtain ⟨wd, hwd⟩ : ∃ W, wr.drew = W := ⟨_, rfl⟩
      have HQd : Hid (Q wr wd) := Lib.hid (by rw [← hwd]; exact (Q.refl wr).drew)
      rw [hwd]
      clear hwd
      intro W hW K hK
      have HQ5 := Lib.hid (HQd.out.trans hW)
      clear hW
      go_wp2_with fail
      refine (REncode_any x true _ (by have := HXY.out.1; omega)).mono ?_
      rintro e W6 ⟨rfl, hq6⟩
      have HQ6 := Lib.hid (HQ5.out.trans hq6)
      go_wp2_with fail
      refine hK.out _ _ hq6 ?_
      clear hq6 hK K HQ5
      (repeat (go_big_quiet_step (fail)))
      refine wpQuiet_nil ?_
      intro W hW K hK
      have HQ7 := Lib.hid (HQ6.out.trans hW)
      clear hW HQ6
      go_wp2_with fail
      refine (REncode_any y true _ (by have := HXY.out.2; omega)).mono ?_
      rintro e W8 ⟨rfl, hq8⟩
      have HQ8 := Lib.hid (HQ7.out.trans hq8)
      go_wp2_with fail
      refine hK.out _ _ hq8 ?_
      clear hq8 hK K HQ7
      (repeat (go_big_quiet_step (fail)))
      refine wpQuiet_nil ?_
      intro W' b5 hW hb hN2
      have HQ9 := Lib.hid (HQ8.out.trans hW)
      obtain ⟨X, hX⟩ : ∃ X, encP (x, y) = X := ⟨_, rfl⟩
      have hX1 : encL true x = X.1 := by rw [← hX]; rfl
      have hX2 : encL true y = X.2 := by rw [← hX]; rfl
      rw [hX] at HTK
      rw [hX1, hX2]
      obtain ⟨xn, xv⟩ := X
      clear hX hX1 hX2 hW
      have hNb : wr.heap.size ≤ b5 := Nat.le_trans HQd.out.size hN2
      have hpb : PB (W'.setRow b5 (pairL (xn, xv)).toArray) b5 (xn, xv) := setRow_heap W' _ _ _ _ _ hb
      have hqs : Q wr (W'.setRow b5 (pairL (xn, xv)).toArray) := Q.setRow HQ9.out hNb _
      have HPB := Lib.hid hpb
      have HQS := Lib.hid hqs
      have HO5 := Lib.hid (HO.out.q hqs)
      have HW5 := Lib.hid (HQ.out.trans hqs)
      have HNE : Hid (∀ g, u3.ownBlock = some g → g ≠ b5) := Lib.hid (fun g hg e => by have := (HO.out.block hg).2.1; omega)
      have hwb : w.heap.size ≤ b5 := Nat.le_trans HQ.out.size hNb
      clear hpb hqs hN2 HQ9 HQ8 HQd HO HQ
      go_wp2_with (refine wpList_store_row rfl 37 _ _ rfl b5 (pairL (xn, xv)).toArray (by rfl) (by rfl) 37 _ hb infoP rfl (pairL_one _) ?_)
      refine NoPanic.normal ?_
      obtain ⟨w8, hw8⟩ : ∃ X, W'.setRow b5 (pairL (xn, xv)).toArray = X := ⟨_, rfl⟩
      rw [hw8] at HPB HQS HO5 HW5 ⊢
      clear hw8 hb hNb HQS
      go_upto_region 6 with (fail)
      iterate 4 go_step
      refine wpList_load_row rfl 37 (.tmp 5) rfl b5 rfl _ _ _ _ HPB.out Tryz.underlying37 rfl infoP ?_
      simp only [pairL, Act.put, List.setIfInBounds_toArray, List.set_cons_succ, List.set_cons_zero]
      iterate 3 go_step
      refine wpList_append_u2 rfl (.tmp 28) (.tmp 30) rfl w w8 u3 ys (xn, xv) rfl HO5.out rfl HW5.out.size (by have := HYL.out; omega) ?_
      intro v9 w9 ho9 hg9 hfr9
      have hq9 : Q w w9 := gb_q_own hg9 HW5.out (fun b hb => (HO5.out.block hb).1)
      have hp9 : PB w9 b5 (xn, xv) := by
        unfold PB; rw [hg9.block b5 (lt_of_heap HPB.out) (fun e => HNE.out _ e.symm rfl)]; exact HPB.out
      have hns : v9.ownBlock ≠ some b5 := fun e => by
        rcases hfr9 _ e with h1 | h1
        · exact HNE.out _ h1 rfl
        · have := lt_of_heap HPB.out; omega
      obtain ⟨A2, c2, rfl, hc2, _⟩ := ho9.pairs
      have hl9 : (ys ++ [(xn, xv)]).length = k + 1 := by rw [List.length_append, HYL.out]; rfl
      rw [hl9] at hc2 ho9 hns ⊢
      have hc2m := ho9.cap (by omega)
      have HO9 : Hid (OwnU w w9 (.slice A2 (k + 1) c2) (ys.take k ++ (xn, xv) :: ys.drop k)) := Lib.hid (by
        rw [← HYL.out, List.take_length, List.drop_length]; rw [HYL.out]; exact ho9)
      have HQ9 := Lib.hid hq9
      have HP9 := Lib.hid hp9
      have HNS := Lib.hid hns
      clear ho9 hq9 hp9 hns hg9 hfr9 hl9 HO5 HW5 HPB HNE
      go_wp2_with fail
      go_loopw [6] (fun i wr => ∃ j : Nat, j ≤ k ∧ i = .int .i64 (j : Int) ∧ Hid (OwnU w wr (.slice A2 (k + 1) c2) (ys.take j ++ (xn, xv) :: ys.drop j)) ∧ Hid (Q w wr) ∧ Hid (PB wr b5 (xn, xv)) ∧ Hid (∀ m, j ≤ m → m < ys.length → leP (xn, xv) (gU ys m) = true)) (fun i _ => (intOf i).toNat)
      case atStart => exact ⟨k, by omega, by go_num, HO9, HQ9, HP9, Lib.hid (fun m h1 h2 => by have := HYL.out; omega)⟩
      case round =>
        clear HO9 HQ9 HP9
        obtain ⟨j, hj, rfl, HO, HQ, HB, HL⟩ := hrel
        rcases j with _ | m
        · have HDone : Hid (UpP (ys.take 0 ++ (xn, xv) :: ys.drop 0) ∧ (ys.take 0 ++ (xn, xv) :: ys.drop 0).Perm ((ps.take (k + 1)).map encP)) := Lib.hid
            ⟨ins_up HUP.out.1 (by omega) (fun m h1 h2 => HL.out m h1 h2) (.inl rfl), (ins_perm ys 0 (xn, xv)).trans (by rw [HTK.out]; exact HUP.out.2.append_right _)⟩
          have HLen : Hid ((ys.take 0 ++ (xn, xv) :: ys.drop 0).length = k + 1) := Lib.hid (by rw [ins_len ys 0 _ (by omega), HYL.out])
          clear HL HUP HTK
          rw [show ((0 : Nat) : Int) = 0 from rfl]
          go_upto_region 8 with (fail)
          go_region
          go_wp2_with fail
          go_roundw
          case rel => exact ⟨k + 1, _, by omega, by go_num, HLen, Lib.hid (HO.out.q (Q.refl _).drew), Lib.hid HQ.out.drew, HDone⟩
          case measure => simp [intOf]; omega
        · have hmk : m < k := by omega
          have hyl := HYL.out
          obtain ⟨g2, rfl, e0, e1, hg2, hg2l⟩ := HO.out.el (j := m + 1) (by rw [ins_len ys _ _ (by omega)]; omega)
          obtain ⟨g3, hg3, e2, e3, _, _⟩ := HO.out.el (j := m) (by rw [ins_len ys _ _ (by omega)]; omega)
          cases hg3
          rw [gU_ins (by omega)] at e0 e1
          rw [gU_before (by omega)] at e2 e3
          clear hyl
          have HST : Hid (((ys.take (m + 1) ++ (xn, xv) :: ys.drop (m + 1)).set (m + 1) (gU ys m)).set m (xn, xv) = ys.take m ++ (xn, xv) :: ys.drop m) := Lib.hid (ins_step ys m (xn, xv) (by have := HYL.out; omega))
          obtain ⟨⟨yn, yv⟩, hy⟩ : ∃ p, gU ys m = p := ⟨_, rfl⟩
          rw [hy] at e2 e3 HST
          simp only at e0 e1 e2 e3
          have e0' : wr.cell? ⟨g2, m * 2 + 2, none⟩ = some (.string ⟨xn.toArray⟩) := by rw [show m * 2 + 2 = (m + 1) * 2 by omega]; exact e0
          have hlt := ltP_bl (xn, xv) (yn, yv)
          simp only at hlt
          have HY := Lib.hid hy
          clear hy
          have hyl2 : Hid (ys.length = k) := HYL
          rcases hb1 : Op.bytesLess xn yn with _ | _
          · rcases hb2 : (xn == yn) with _ | _
            · have hno : ltOf pcmp (xn, xv) (yn, yv) = false := by rw [hlt]; simp [hb1, hb2]
              have HDone : Hid (UpP (ys.take (m + 1) ++ (xn, xv) :: ys.drop (m + 1)) ∧ (ys.take (m + 1) ++ (xn, xv) :: ys.drop (m + 1)).Perm ((ps.take (k + 1)).map encP)) := Lib.hid
                ⟨ins_up HUP.out.1 (by have := HYL.out; omega) (fun q h1 h2 => HL.out q h1 h2) (.inr (by show leP (gU ys m) (xn, xv) = true; rw [HY.out]; unfold leP; rw [hno]; rfl)), (ins_perm ys (m + 1) (xn, xv)).trans (by rw [HTK.out]; exact HUP.out.2.append_right _)⟩
              have HLen : Hid ((ys.take (m + 1) ++ (xn, xv) :: ys.drop (m + 1)).length = k + 1) := Lib.hid (by rw [ins_len ys (m + 1) _ (by have := HYL.out; omega), HYL.out])
              clear HL HUP HTK HST HY hno hlt
              go_upto_region 8 with (fail)
              go_region
              clear e0 e0' e1 e2 e3
              go_wp2_with fail
              go_roundw
              case rel => exact ⟨k + 1, _, by omega, by go_num, HLen, Lib.hid (HO.out.q (Q.refl _).drew), Lib.hid HQ.out.drew, HDone⟩
              case measure => simp [intOf]; omega
            · rcases hb3 : Op.bytesLess xv yv with _ | _
              · have hno : ltOf pcmp (xn, xv) (yn, yv) = false := by rw [hlt]; simp [hb1, hb3]
                have HDone : Hid (UpP (ys.take (m + 1) ++ (xn, xv) :: ys.drop (m + 1)) ∧ (ys.take (m + 1) ++ (xn, xv) :: ys.drop (m + 1)).Perm ((ps.take (k + 1)).map encP)) := Lib.hid
                  ⟨ins_up HUP.out.1 (by have := HYL.out; omega) (fun q h1 h2 => HL.out q h1 h2) (.inr (by show leP (gU ys m) (xn, xv) = true; rw [HY.out]; unfold leP; rw [hno]; rfl)), (ins_perm ys (m + 1) (xn, xv)).trans (by rw [HTK.out]; exact HUP.out.2.append_right _)⟩
                have HLen : Hid ((ys.take (m + 1) ++ (xn, xv) :: ys.drop (m + 1)).length = k + 1) := Lib.hid (by rw [ins_len ys (m + 1) _ (by have := HYL.out; omega), HYL.out])
                clear HL HUP HTK HST HY hno hlt
                go_upto_region 8 with (fail)
                go_region
                clear e0 e0' e1 e2 e3
                go_wp2_with fail
                go_roundw
                case rel => exact ⟨k + 1, _, by omega, by go_num, HLen, Lib.hid (HO.out.q (Q.refl _).drew), Lib.hid HQ.out.drew, HDone⟩
                case measure => simp [intOf]; omega
              · have hyes : ltOf pcmp (xn, xv) (yn, yv) = true := by rw [hlt]; simp [hb2, hb3]
                have HL2 : Hid (∀ q, m ≤ q → q < ys.length → leP (xn, xv) (gU ys q) = true) := Lib.hid (fun q h1 h2 => by
                  by_cases e : q = m
                  · subst e; rw [HY.out]; unfold leP; rw [Sort.SWO.asymm swo_pair hyes]; rfl
                  · exact HL.out q (by omega) h2)
                clear HL HY hyes hlt
                go_upto_region 8 with (fail)
                go_region
                obtain ⟨wb, hwb⟩ : ∃ W, wr.drew = W := ⟨_, rfl⟩
                have hqb : Q wr wb := by rw [← hwb]; exact (Q.refl wr).drew
                rw [hwb]
                clear hwb
                have f2 := hqb.cell e2
                have f3 := hqb.cell e3
                have HOb := Lib.hid (HO.out.q hqb)
                have HQb := Lib.hid (HQ.out.trans hqb)
                have HBb : Hid (PB wb b5 (xn, xv)) := Lib.hid (hqb.block HB.out)
                have hgN : g2 ≠ b5 := fun e => HNS.out (by subst e; rfl)
                clear e0 e0' e1 e2 e3 hqb HO HQ HB
                obtain ⟨g4, hg4, hgs, hth, ho9, hg9⟩ := HOb.out.setU (m + 1) (by omega) (yn, yv)
                cases hg4
                have HO9 := Lib.hid ho9
                have hq9 : Q w (wb.setCells g2 ((m + 1) * 2) (pairL (yn, yv))) := Below.grown HQb.out hg9 HQb.out.size (fun b hb => by cases hb; exact hg2)
                have HQ9 := Lib.hid hq9
                have HB9 : Hid (PB (wb.setCells g2 ((m + 1) * 2) (pairL (yn, yv))) b5 (xn, xv)) := Lib.hid (by
                  unfold PB; rw [hg9.block b5 (lt_of_heap HBb.out) (fun e => hgN (by first | exact Option.some.inj e | exact (Option.some.inj e).symm))]; exact HBb.out)
                clear ho9 hg9 hq9 hgs HOb HQb HBb
                go_upto_region 10 with (fail)
                iterate 25 go_step
                refine wpList_store_mid rfl 37 (.tmp 88) (.tmp 87) rfl g2 ((m + 1) * 2) (pairL (yn, yv)).toArray (by rfl) (by rfl) hth infoP (pairL_one _) ?_
                clear hth f2 f3
                go_upto_region 11 with (fail)
                obtain ⟨W6, hW6⟩ : ∃ W, wb.setCells g2 ((m + 1) * 2) (pairL (yn, yv)) = W := ⟨_, rfl⟩
                rw [hW6] at HO9 HQ9 HB9
                have hW6b : wb.setCells g2 ((m + 1) * 2) (pairL (yn, yv)).toArray.toList = W6 := hW6
                first | rw [hW6] | rw [hW6b]
                clear hW6 hW6b
                have c0 := HB9.out.c0
                have c1 := HB9.out.c1
                simp only at c0 c1
                obtain ⟨g5, hg5, hgs5, hth5, ho10, hg10⟩ := HO9.out.setU m (by omega) (xn, xv)
                cases hg5
                rw [HST.out] at ho10
                have HO10 := Lib.hid ho10
                have HQ10 := Lib.hid (Below.grown HQ9.out hg10 HQ9.out.size (fun b hb => by cases hb; exact hg2) : Q w _)
                have HB10 : Hid (PB (W6.setCells g2 (m * 2) (pairL (xn, xv))) b5 (xn, xv)) := Lib.hid (by
                  unfold PB; rw [hg10.block b5 (lt_of_heap HB9.out) (fun e => hgN (by first | exact Option.some.inj e | exact (Option.some.inj e).symm))]; exact HB9.out)
                clear ho10 hg10 hgs5 HO9 HQ9 HB9
                simp only [Act.put, List.setIfInBounds_toArray, List.set_cons_succ, List.set_cons_zero]
                iterate 16 go_step
                refine wpList_store_mid rfl 37 (.tmp 93) (.tmp 92) rfl g2 (m * 2) (pairL (xn, xv)).toArray (by rfl) (by rfl) hth5 infoP (pairL_one _) ?_
                clear hth5 c0 c1
                go_wp2_with fail
                go_roundw
                case rel => exact ⟨m, by omega, by go_num, HO10, HQ10, HB10, HL2⟩
                case measure => simp [intOf]
          · have hyes : ltOf pcmp (xn, xv) (yn, yv) = true := by rw [hlt]; simp [hb1]
            have HL2 : Hid (∀ q, m ≤ q → q < ys.length → leP (xn, xv) (gU ys q) = true) := Lib.hid (fun q h1 h2 => by
              by_cases e : q = m
              · subst e; rw [HY.out]; unfold leP; rw [Sort.SWO.asymm swo_pair hyes]; rfl
              · exact HL.out q (by omega) h2)
            clear HL HY hyes hlt
            go_upto_region 8 with (fail)
            go_region
            obtain ⟨wb, hwb⟩ : ∃ W, wr.drew = W := ⟨_, rfl⟩
            have hqb : Q wr wb := by rw [← hwb]; exact (Q.refl wr).drew
            rw [hwb]
            clear hwb
            have f2 := hqb.cell e2
            have f3 := hqb.cell e3
            have HOb := Lib.hid (HO.out.q hqb)
            have HQb := Lib.hid (HQ.out.trans hqb)
            have HBb : Hid (PB wb b5 (xn, xv)) := Lib.hid (hqb.block HB.out)
            have hgN : g2 ≠ b5 := fun e => HNS.out (by subst e; rfl)
            clear e0 e0' e1 e2 e3 hqb HO HQ HB
            obtain ⟨g4, hg4, hgs, hth, ho9, hg9⟩ := HOb.out.setU (m + 1) (by omega) (yn, yv)
            cases hg4
            have HO9 := Lib.hid ho9
            have hq9 : Q w (wb.setCells g2 ((m + 1) * 2) (pairL (yn, yv))) := Below.grown HQb.out hg9 HQb.out.size (fun b hb => by cases hb; exact hg2)
            have HQ9 := Lib.hid hq9
            have HB9 : Hid (PB (wb.setCells g2 ((m + 1) * 2) (pairL (yn, yv))) b5 (xn, xv)) := Lib.hid (by
              unfold PB; rw [hg9.block b5 (lt_of_heap HBb.out) (fun e => hgN (by first | exact Option.some.inj e | exact (Option.some.inj e).symm))]; exact HBb.out)
            clear ho9 hg9 hq9 hgs HOb HQb HBb
            go_upto_region 10 with (fail)
            iterate 25 go_step
            refine wpList_store_mid rfl 37 (.tmp 88) (.tmp 87) rfl g2 ((m + 1) * 2) (pairL (yn, yv)).toArray (by rfl) (by rfl) hth infoP (pairL_one _) ?_
            clear hth f2 f3
            go_upto_region 11 with (fail)
            obtain ⟨W6, hW6⟩ : ∃ W, wb.setCells g2 ((m + 1) * 2) (pairL (yn, yv)) = W := ⟨_, rfl⟩
            rw [hW6] at HO9 HQ9 HB9
            have hW6b : wb.setCells g2 ((m + 1) * 2) (pairL (yn, yv)).toArray.toList = W6 := hW6
            first | rw [hW6] | rw [hW6b]
            clear hW6 hW6b
            have c0 := HB9.out.c0
            have c1 := HB9.out.c1
            simp only at c0 c1
            obtain ⟨g5, hg5, hgs5, hth5, ho10, hg10⟩ := HO9.out.setU m (by omega) (xn, xv)
            cases hg5
            rw [HST.out] at ho10
            have HO10 := Lib.hid ho10
            have HQ10 := Lib.hid (Below.grown HQ9.out hg10 HQ9.out.size (fun b hb => by cases hb; exact hg2) : Q w _)
            have HB10 : Hid (PB (W6.setCells g2 (m * 2) (pairL (xn, xv))) b5 (xn, xv)) := Lib.hid (by
              unfold PB; rw [hg10.block b5 (lt_of_heap HB9.out) (fun e => hgN (by first | exact Option.some.inj e | exact (Option.some.inj e).symm))]; exact HB9.out)
            clear ho10 hg10 hgs5 HO9 HQ9 HB9
            simp only [Act.put, List.setIfInBounds_toArray, List.set_cons_succ, List.set_cons_zero]
            iterate 16 go_step
            refine wpList_store_mid rfl 37 (.tmp 93) (.tmp 92) rfl g2 (m * 2) (pairL (xn, xv)).toArray (by rfl) (by rfl) hth5 infoP (pairL_one _) ?_
            clear hth5 c0 c1
            go_wp2_with fail
            go_roundw
            case rel => exact ⟨m, by omega, by go_num, HO10, HQ10, HB10, HL2⟩
            case measure => simp [intOf]
    · obtain rfl : k = ps.length := by omega
      rw [List.take_length] at HUP
      have HS : Hid (ys = sortP (ps.map encP)) := Lib.hid (up_sortP HUP.out.1 HUP.out.2)
      have HCL : Hid (canonL ps = Lib.join (ys.map joinE) [38]) := Lib.hid (by unfold canonL partsL; rw [HS.out])
      have HBD : Hid (∀ p ∈ ys, p.1.length ≤ 30000000 ∧ p.2.length ≤ 30000000) := Lib.hid (fun p hp => by
        have hp' : p ∈ ps.map encP := HUP.out.2.mem_iff.1 hp
        obtain ⟨q, hq, rfl⟩ := List.mem_map.1 hp'
        have h1 := encL_le true q.1
        have h2 := encL_le true q.2
        have h3 := HPS.out q hq
        constructor
        · show (encL true q.1).length ≤ _; omega
        · show (encL true q.2).length ≤ _; omega)
      obtain ⟨A2, c2, hv2, hc2, hp2⟩ := HO.out.pairs
      rw [HYL.out] at hv2 hc2 hp2
      subst hv2
      have HP2 := Lib.hid hp2
      clear hp2 HPS HP hlt hk hcap hc HUP HS
      go_wp2_with fail
      go_loopw [7, 8] (fun sv i w2 => ∃ (q : Nat) (S : List UInt8), q ≤ ps.length ∧ i = .int .i64 (q : Int) ∧ sv = .string ⟨S.toArray⟩ ∧ S.length ≤ q * 60000003 ∧ Hid (S = Lib.join ((ys.take q).map joinE) [38]) ∧ Hid (Q wr w2)) (fun _ i _ => ps.length - (intOf i).toNat)
      case atStart => exact ⟨0, [], by omega, rfl, rfl, by simp, Lib.hid (by simp [join_nil]), Lib.hid (Q.refl _)⟩
      case round =>
        obtain ⟨q, S, hq, rfl, rfl, hSL, HS, HQ2⟩ := hrel
        rename World => wz
        by_cases hlt : q < ps.length
        · have g1 : decide (q < ps.length) = true := by simpa using hlt
          obtain ⟨g, off, rfl, e0, e1⟩ := (HP2.out.q HQ2.out).at hlt
          obtain ⟨⟨x, y⟩, hxy⟩ : ∃ p, gU ys q = p := ⟨_, rfl⟩
          rw [hxy] at e0 e1
          simp only at e0 e1
          have hxl : x.length ≤ 30000000 ∧ y.length ≤ 30000000 := by
            have hk2 : q < ys.length := by rw [HYL.out]; omega
            have e : gU ys q = ys[q] := by simp [gU, List.getD, hk2]
            have := HBD.out _ (List.getElem_mem hk2)
            rw [← e, hxy] at this; exact this
          obtain ⟨hx3, hy3⟩ := hxl
          have HTK : Hid ((ys.take (q + 1)).map joinE = (ys.take q).map joinE ++ [joinE (x, y)]) := Lib.hid (by rw [take_snocP ys q (by rw [HYL.out]; omega), hxy]; simp)
          clear hxy
          have hSB : S.length ≤ 70000000000000 := by omega
          by_cases hq0 : q = 0
          · subst hq0
            have HN : Hid (Lib.join ((ys.take (0 + 1)).map joinE) [38] = S ++ (x ++ 61 :: y)) := Lib.hid (by
              have hS := HS.out
              rw [List.take_zero, List.map_nil, join_nil] at hS
              rw [HTK.out, List.take_zero, List.map_nil, List.nil_append, join_one, hS]; rfl)
            clear HTK HS
            rw [show ((0 : Nat) : Int) = 0 from rfl]
            rw [Nat.zero_mul, Nat.add_zero] at e0 e1
            go_upto_region 18 with (fail)
            go_region
            clear e0 e1
            go_wp2_with fail
            go_roundw
            case rel => exact ⟨0 + 1, S ++ (x ++ 61 :: y), by omega, by go_num, by simp, by simp only [List.length_append, List.length_cons]; omega, Lib.hid HN.out.symm, Lib.hid HQ2.out.drew⟩
            case measure => simp [intOf]; try omega
          · have hqi : (0 : Int) < (q : Int) := by omega
            have HN : Hid (Lib.join ((ys.take (q + 1)).map joinE) [38] = S ++ (38 :: (x ++ 61 :: y))) := Lib.hid (by
              rw [HTK.out, join_snoc _ _ (by
                intro e
                have := congrArg List.length e
                simp only [List.length_map, List.length_take, List.length_nil] at this
                have := HYL.out
                omega), ← HS.out]; rfl)
            clear HTK HS hq0
            go_upto_region 18 with (fail)
            go_region
            clear e0 e1
            go_wp2_with fail
            go_roundw
            case rel => exact ⟨q + 1, S ++ (38 :: (x ++ 61 :: y)), by omega, by go_num, by simp, by simp only [List.length_append, List.length_cons]; omega, Lib.hid HN.out.symm, Lib.hid HQ2.out.drew⟩
            case measure => simp [intOf]; try omega
        · obtain rfl : q = ps.length := by omega
          have HR : Hid (canonL ps = S) := Lib.hid (by rw [HCL.out, HS.out, List.take_of_length_le (by rw [HYL.out]; omega)])
          clear HS hSL
          go_wp2_with fail
          go_ret
          rw [HR.out]
          exact ⟨rfl, HQ.out.trans HQ2.out⟩
end Go.Proofs.YtlalpnnnnmcejaaGreatDoor
/- Pairs made and copied: make, copy. (XPaF's, turned to pairs.) -/
set_option linter.unusedVariables false
set_option linter.unusedSimpArgs false
namespace Go.Proofs.YtlalpnnnnmcejaaGreatDoor
open Go Go.RowKit
theorem cellsU_one' (ps : List PairD) : ∀ u ∈ cellsU ps, u.oneCell' = true := by
  intro u hu
  obtain ⟨p, _, hp⟩ := List.mem_flatMap.1 hu
  simp only [pairL, List.mem_cons, List.not_mem_nil, or_false] at hp
  rcases hp with rfl | rfl <;> rfl
theorem PairsAt.cells {w : World} {g off n : Nat} {ps : List PairD} (h : PairsAt w (some ⟨g, off, none⟩) n ps) : ∀ j u, (cellsU ps)[j]? = some u → w.cell? (Addr.add ⟨g, off, none⟩ j) = some u := by
  intro j u hu
  have hj : j < ps.length * 2 := by have := (List.getElem?_eq_some_iff.1 hu).1; rwa [cellsU_len] at this
  obtain ⟨g', off', e, hg, hc⟩ := h.2 (by rw [h.1]; omega)
  cases e
  have e1 : (Addr.add ⟨g, off, none⟩ j) = ⟨g, off + j, none⟩ := by unfold Addr.add; split <;> simp_all
  have hq : j / 2 < ps.length := by omega
  have e2 := cellsU_at ps (j / 2) hq (j % 2) (by omega)
  rw [show j / 2 * 2 + j % 2 = j by omega, hu] at e2
  rw [e1, show off + j = off + j / 2 * 2 + j % 2 by omega]
  exact hc (j / 2) hq (j % 2) u e2.symm
theorem PairsAt.take {w : World} {A : Option Addr} {n : Nat} {ps : List PairD} (h : PairsAt w A n ps) (k : Nat) (hk : k ≤ n) : PairsAt w A k (ps.take k) := by
  refine ⟨by rw [List.length_take, ← h.1]; omega, fun h0 => ?_⟩
  obtain ⟨g, off, e, hg, hc⟩ := h.2 (by omega)
  exact ⟨g, off, e, hg, fun j hj i v hv => hc j (by rw [List.length_take] at hj; omega) i v (by rw [List.getElem_take] at hv; exact hv)⟩
theorem PairsAt.drop {w : World} {g off n : Nat} {ps : List PairD} (h : PairsAt w (some ⟨g, off, none⟩) n ps) (k : Nat) (hk : k ≤ n) : PairsAt w (some ⟨g, off + k * 2, none⟩) (n - k) (ps.drop k) := by
  refine ⟨by rw [List.length_drop, ← h.1], fun h0 => ?_⟩
  obtain ⟨g', off', e, hg, hc⟩ := h.2 (by omega)
  cases e
  refine ⟨g, off + k * 2, rfl, hg, fun j hj i v hv => ?_⟩
  rw [List.length_drop] at hj
  have := hc (k + j) (by omega) i v (by rw [List.getElem_drop] at hv; exact hv)
  rwa [show off + (k + j) * 2 + i = off + k * 2 + j * 2 + i by omega] at this
theorem made_p (n : Nat) : (madeCells (Value.agg #[.string ⟨#[]⟩, .string ⟨#[]⟩]).cells (n * 2)).toList = cellsU (List.replicate n default) := by
  apply List.ext_getElem?
  intro j
  by_cases hj : j < n * 2
  · have hq : j / 2 < (List.replicate n (default : PairD)).length := by simp; omega
    have e2 := cellsU_at (List.replicate n (default : PairD)) (j / 2) hq (j % 2) (by omega)
    rw [show j / 2 * 2 + j % 2 = j by omega] at e2
    rw [e2, List.getElem_replicate]
    have h5 : j % 2 < 2 := by omega
    simp only [madeCells, Value.cells, Array.toList_map, List.getElem?_map]
    rw [show (Array.range (n * 2)).toList[j]? = some j by simp [hj]]
    simp only [Option.map_some]
    have : ∀ m, m < 2 → some ((#[Value.string ⟨#[]⟩, .string ⟨#[]⟩] : Array Value)[m]!) = (pairL (default : PairD))[m]? := by
      intro m hm
      match m, hm with
      | 0, _ => rfl
      | 1, _ => rfl
    exact this _ h5
  · rw [List.getElem?_eq_none (by simp [madeCells]; omega), List.getElem?_eq_none (by rw [cellsU_len]; simp; omega)]
theorem cellsU_take (ps : List PairD) (k : Nat) : (cellsU ps).take (k * 2) = cellsU (ps.take k) := by
  rcases Nat.lt_or_ge ps.length k with h | h
  · rw [List.take_of_length_le (by rw [cellsU_len]; omega), List.take_of_length_le (by omega)]
  · have e : cellsU ps = cellsU (ps.take k) ++ cellsU (ps.drop k) := by rw [← cellsU_app, List.take_append_drop]
    have hl : (cellsU (ps.take k)).length = k * 2 := by rw [cellsU_len, List.length_take]; omega
    rw [e, ← hl, List.take_left]
theorem cellsU_drop (ps : List PairD) (k : Nat) : (cellsU ps).drop (k * 2) = cellsU (ps.drop k) := by
  rcases Nat.lt_or_ge ps.length k with h | h
  · rw [List.drop_eq_nil_of_le (by rw [cellsU_len]; omega), List.drop_eq_nil_of_le (by omega)]; rfl
  · have e : cellsU ps = cellsU (ps.take k) ++ cellsU (ps.drop k) := by rw [← cellsU_app, List.take_append_drop]
    have hl : (cellsU (ps.take k)).length = k * 2 := by rw [cellsU_len, List.length_take]; omega
    rw [e, ← hl, List.drop_left]
theorem make_pairs (w : World) (l c : Nat) (hlc : l ≤ c) (hb : (32 : Int) * c ≤ 281474976710656) :
    ∃ w', (Instr.makeSlice 30 (.int .i64 (l : Int)) (.int .i64 (c : Int))).run Tryz.prog w = .ok (.slice (some ⟨w.heap.size, 0, none⟩) l c) w' ∧ OwnU w w' (.slice (some ⟨w.heap.size, 0, none⟩) l c) (List.replicate l default) ∧ Q w w' := by
  obtain ⟨i, hi, hz, hsz, hby⟩ := info_parts info_pair
  have h := run_make (P := Tryz.prog) w 30 37 i _ Tryz.underlying30 hi hz .i64 .i64 (l : Int) (c : Int) (by omega) (by omega) (by rw [hby]; exact hb) (by omega)
  rw [hsz, Int.toNat_natCast, Int.toNat_natCast] at h
  refine ⟨_, h, ⟨by rw [cellsU_len], .inr ⟨w.heap.size, c, _, by rw [List.length_replicate], Nat.le_refl _, (MapKept.heap_alloc w _).1, by rw [List.length_replicate]; exact hlc, by unfold maxLen; omega, by rw [size_madeCells], ?_⟩⟩, (Q.refl w).alloc _⟩
  rw [made_p, List.length_replicate, cellsU_take, List.take_replicate, Nat.min_eq_left hlc]
/-- copy. -/
theorem copy_pairs (w0 w : World) (g dLen cap n sCap : Nat) (A : Option Addr) (qs ps : List PairD) (h : OwnU w0 w (.slice (some ⟨g, 0, none⟩) dLen cap) qs) (hd : qs.length = dLen) (hp : PairsAt w A n ps) (ty : TypeId) :
    ∃ w', (Builtin.copy_ #[30, 30] ty #[.slice (some ⟨g, 0, none⟩) dLen cap, .slice A n sCap]).run Tryz.prog w = .ok (.int .i64 (min n dLen : Nat)) w' ∧ OwnU w0 w' (.slice (some ⟨g, 0, none⟩) dLen cap) (ps.take dLen ++ qs.drop n) ∧ w.grownBy w' (some g) := by
  have hu := Tryz.underlying30
  obtain ⟨i, hi, hz, hsz, hby⟩ := info_parts info_pair
  rcases h.2 with ⟨h1, _⟩ | ⟨g', cap', cur, hv, hb, hh, hn, hm, hcs, ht⟩
  · cases h1
  obtain ⟨rfl, rfl⟩ : g' = g ∧ cap' = cap := by cases hv; exact ⟨rfl, rfl⟩
  obtain ⟨m, hmm⟩ : ∃ m, m = min n dLen := ⟨_, rfl⟩
  have hmin : Nat.min n dLen = m := hmm.symm
  have hpn := hp.1
  have e1 : ps.take dLen = ps.take m := by
    rcases Nat.le_total n dLen with hl | hl
    · rw [List.take_of_length_le (by omega), List.take_of_length_le (by omega)]
    · rw [show m = dLen by omega]
  have e2 : qs.drop n = qs.drop m := by
    rcases Nat.le_total n dLen with hl | hl
    · rw [show m = n by omega]
    · rw [List.drop_eq_nil_of_le (by omega), List.drop_eq_nil_of_le (by omega)]
  have hcl : (cellsU (ps.take m)).length = m * 2 := by rw [cellsU_len, List.length_take]; omega
  have hown : ∀ w' : World, w'.heap[g']? = some (.cells ((cellsU (ps.take m)) ++ cur.toList.drop (m * 2)).toArray 37 (0, 0)) → OwnU w0 w' (.slice (some ⟨g', 0, none⟩) dLen cap') (ps.take dLen ++ qs.drop n) := by
    intro w' hw
    rw [e1, e2]
    have hlen : (ps.take m ++ qs.drop m).length = dLen := by rw [List.length_append, List.length_take, List.length_drop]; omega
    refine ⟨by rw [cellsU_len], .inr ⟨g', cap', _, by rw [hlen], hb, hw, by rw [hlen]; omega, hm, ?_, ?_⟩⟩
    · simp only [List.size_toArray, List.length_append, hcl, List.length_drop, Array.length_toList]; omega
    · rw [hlen, cellsU_app, ← cellsU_drop, ← ht, List.take_append, List.take_of_length_le (by omega), hcl, hd, List.drop_take]
  refine ⟨w.setRow g' ((cellsU (ps.take m)) ++ cur.toList.drop (m * 2)).toArray, ?_, hown _ (setRow_heap w g' cur _ _ _ hh), ?_⟩
  · rw [← hmm]
    by_cases h0 : m = 0
    · have e3 : ((cellsU (ps.take m)) ++ cur.toList.drop (m * 2)).toArray = cur := by subst h0; simp [cellsU]
      rw [e3, setRow_self w g' cur _ _ hh]
      rw [h0] at hmin ⊢
      cases A with
      | none => simp [Builtin.copy_, run_underlying hu, Builtin.lenOf, Builtin.firstCells, sizeOf, typeInfo, hi, storeCells, hmin, goInt]
      | some a => simp [Builtin.copy_, run_underlying hu, Builtin.lenOf, Builtin.firstCells, sizeOf, typeInfo, hi, storeCells, hmin, goInt, loadCells, loadCellsFrom]
    · obtain ⟨g2, off2, rfl, _⟩ := hp.2 (by omega)
      have hc := (hp.take m (by omega)).cells
      have hl := run_loadCells_list (P := Tryz.prog) w ⟨g2, off2, none⟩ (cellsU (ps.take m)) hc
      have hst := run_storeCells_at Tryz.prog g' 0 37 (cellsU (ps.take m)) 0 cur w hh (by rw [hcl]; omega) (cellsU_one' _)
      rw [hcl] at hl hst
      simp only [Nat.zero_add, List.take_zero, List.nil_append] at hst
      simp [Builtin.copy_, run_underlying hu, Builtin.lenOf, Builtin.firstCells, sizeOf, typeInfo, hi, hsz, hmin, hl, hst, goInt]
  · exact ⟨rfl, rfl, rfl, by simp [World.setRow], fun k _ hk => setRow_other w g' k _ (fun e => hk (by rw [e]))⟩
/-- copy(l, x). -/
theorem wpList_copy_u {ops : Array Oper} {rest : List Oper} {o : Oper} {a : Act} {R : Exit → Act → World → Prop} (hgd : o.guard = none) (s x : Operand)
    (ho : o.op = .call { callee := .builtin .copy, args := #[s, x], argTypes := #[30, 30] })
    (w0 W : World) (g dLen cap : Nat) (qs ps : List PairD) (A : Option Addr) (n c : Nat) (hs : a.eval s = .slice (some ⟨g, 0, none⟩) dLen cap) (hown : OwnU w0 W (.slice (some ⟨g, 0, none⟩) dLen cap) qs) (hd : qs.length = dLen) (hx : a.eval x = .slice A n c) (hp : PairsAt W A n ps) (hq : Q w0 W)
    (h : ∀ w', OwnU w0 w' (.slice (some ⟨g, 0, none⟩) dLen cap) (ps.take dLen ++ qs.drop n) → Q w0 w' → W.grownBy w' (some g) → wpList Tryz.prog ops R rest (a.put o.dst (.int .i64 (min n dLen : Nat))) w') : wpList Tryz.prog ops R (o :: rest) a W := by
  obtain ⟨w', hr, h2, h3⟩ := copy_pairs w0 W g dLen cap n c A qs ps hown hd hp o.type
  refine wpList_plain hgd fun K hK => ?_
  unfold Oper.wp execOp
  simp only [ho, resolve, invoke, builtin, Sem.run_bind, Sem.run_pure, Result.andThen_ok, List.map_toArray, List.map_cons, List.map_nil, hs, hx, hr]
  exact hK _ _ (h w' h2 (Below.grown hq h3 hq.size (fun k hk => by cases hk; exact (hown.block rfl).1)) h3)
end Go.Proofs.YtlalpnnnnmcejaaGreatDoor
