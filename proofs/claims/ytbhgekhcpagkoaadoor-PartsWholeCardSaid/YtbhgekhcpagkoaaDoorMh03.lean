/- Texts of this proof, laid into one: Mix, RfF, PaB, PaC, PaD, PaE. -/
import Derived.Test.YtbhgekhcpagkoaaDoorMh02
import Derived.Maps.AppendAt
/- A region that draws its order: operations that read no memory first, then calls that may lay new memory, then a rest in a forced order. -/
set_option linter.unusedVariables false
namespace Go.Proofs.YtbhgekhcpagkoaaDoor
open Go Go.RowKit
section
variable {P : Program} {ops : Array Oper} {R : Exit → Act → World → Prop} {C : World → Prop}
theorem held_of_any {md : Region.Mode} (f : Nat) : ∀ (ls : Array Bool) (a : Act) (w : World), wpAny P md ops R f ls a w → wpAnyH P md ops R (fun _ => True) f ls a w := by
  induction f with
  | zero => intro ls a w h; exact h
  | succ f ih => intro ls a w h; exact ⟨h.1, fun i hi => wpOp_mono (fun a' w' h' => ⟨trivial, ih _ a' w' h'⟩) (h.2 i hi)⟩
/-- Whatever order is picked among those of H. -/
def mixQ (P : Program) (ops : Array Oper) (C : World → Prop) (H : Nat → Prop) (L : Array Bool → Act → Prop) : Nat → Array Bool → Act → Prop
  | 0, ls, a => L ls a
  | f + 1, ls, a => Region.ready .any ops ls ≠ [] ∧ ∀ i ∈ Region.ready .any ops ls, H i ∧ qOp P ops C i (mixQ P ops C H L f (ls.setIfInBounds i true)) a
theorem any_of_mixQ {H : Nat → Prop} {g : Nat} {L : Array Bool → Act → Prop} (hL : ∀ ls a w, C w → L ls a → wpAny P .any ops R g ls a w) (f : Nat) :
    ∀ (ls : Array Bool) (a : Act) (w : World), C w → mixQ P ops C H L f ls a → wpAny P .any ops R (f + g) ls a w := by
  induction f with
  | zero => intro ls a w hw h; rw [Nat.zero_add]; exact hL _ _ _ hw h
  | succ f ih =>
    intro ls a w hw h
    rw [Nat.add_right_comm]
    exact ⟨fun h0 => (h.1 h0).elim, fun i hi => wpOp_of_qOp hw (fun a' w' hw' hk => ih _ a' w' hw' hk) (h.2 i hi).2⟩
/-- What has come up so far: those of ls1, and some of H, each behind those that it waits for. -/
structure MixInv (ops : Array Oper) (ls1 : Array Bool) (H : Nat → Prop) (ls : Array Bool) : Prop where
  size : ls.size = ops.size
  closed : ∀ j oj, ops[j]? = some oj → ls.getD j false = true → ∀ e ∈ oj.after, Region.binds .any e = true → ls.getD e.on false = true
  rest : ∀ t, ¬ H t → ls1.getD t true = false → ls.getD t true = false
  more : ∀ t, ls1.getD t true = true → ls.getD t true = true
theorem MixInv.set {ls1 : Array Bool} {H : Nat → Prop} {i : Nat} {ls : Array Bool} (inv : MixInv ops ls1 H ls) (hi : i ∈ Region.ready .any ops ls) (hin : H i) : MixInv ops ls1 H (ls.setIfInBounds i true) := by
  obtain ⟨_, oi, hoi, hall⟩ := mem_ready.1 hi
  refine ⟨by simp [inv.size], fun j oj hj hl e he hb => ?_, fun t ht ht' => ?_, fun t ht => ?_⟩
  · by_cases hij : i = j
    · subst hij
      have : oj = oi := Option.some.inj (hj.symm.trans hoi)
      subst this
      exact getD_set_true (hall e he hb)
    · rw [getD_set_ne false hij] at hl
      exact getD_set_true (inv.closed j oj hj hl e he hb)
  · have : i ≠ t := fun h => ht (h ▸ hin)
    rw [getD_set_ne true this]; exact inv.rest t ht ht'
  · by_cases hij : i = t
    · subst hij
      by_cases hs : i < ls.size
      · simp [hs]
      · simp [hs]
    · rw [getD_set_ne true hij]; exact inv.more t ht
/-- Each of qs is waited for by a later one of qs, or by the first of tl; each of tl by the next. -/
def sinkL (ops : Array Oper) (qs : List Nat) (t0 : Nat) : Bool := qs.all fun i => (t0 :: qs).any fun j => decide (i < j) && Region.waitsFor .any ops j i
def chainL (ops : Array Oper) : List Nat → Bool
  | a :: b :: r => Region.waitsFor .any ops b a && chainL ops (b :: r)
  | _ => true
theorem chainL_prev {tl : List Nat} (h : chainL ops tl = true) : ∀ t ∈ tl.tail, ∃ s ∈ tl, Region.waitsFor .any ops t s = true := by
  induction tl with
  | nil => intro t ht; cases ht
  | cons a r ih =>
    cases r with
    | nil => intro t ht; cases ht
    | cons b r =>
      simp only [chainL, Bool.and_eq_true] at h
      intro t ht
      rcases List.mem_cons.1 ht with e | e
      · subst e; exact ⟨a, by simp, h.1⟩
      · obtain ⟨s, hs, hs2⟩ := ih h.2 t e
        exact ⟨s, List.mem_cons_of_mem _ hs, hs2⟩
theorem mix_waits {ls1 ls : Array Bool} {qs : List Nat} {t0 : Nat} {tr : List Nat} {N : Nat} (hN : ∀ i ∈ t0 :: qs, i < N) (hs : sinkL ops qs t0 = true) (hc : chainL ops (t0 :: tr) = true) (hT : ∀ t ∈ t0 :: tr, t ∉ qs ∧ ls1.getD t true = false) (hsz : ∀ i ∈ t0 :: qs, i < ops.size)
    (inv : MixInv ops ls1 (· ∈ qs) ls) : ∀ (d i : Nat), N - i = d → i ∈ qs → ls.getD i true = false → ∀ t ∈ t0 :: tr, t ∉ Region.ready .any ops ls := by
  intro d
  induction d using Nat.strongRecOn with
  | _ d ih =>
    intro i hd hi hun t ht hr
    obtain ⟨_, ot, hot, hall⟩ := mem_ready.1 hr
    rcases List.mem_cons.1 ht with e | e
    · subst e
      have h1 := List.all_eq_true.1 hs i hi
      obtain ⟨j, hj, hj2⟩ := List.any_eq_true.1 h1
      simp only [Bool.and_eq_true, decide_eq_true_eq] at hj2
      obtain ⟨oj, hoj, e, he, hb, hon⟩ := Region.waitsFor_spec hj2.2
      rcases List.mem_cons.1 hj with hjt | hjt
      · subst hjt
        have : oj = ot := Option.some.inj (hoj.symm.trans hot)
        subst this
        have h2 := hall e he hb
        rw [hon, getD_both hun] at h2
        cases h2
      · have hjN := hN j (List.mem_cons_of_mem _ hjt)
        cases hl : ls.getD j false with
        | true =>
          have h2 := inv.closed j oj hoj hl e he hb
          rw [hon, getD_both hun] at h2
          cases h2
        | false =>
          have hjs : j < ls.size := by rw [inv.size]; exact hsz j (List.mem_cons_of_mem _ hjt)
          exact ih (N - j) (by omega) j rfl hjt (getD_in hjs hl) t ht hr
    · obtain ⟨s, hs1, hs2⟩ := chainL_prev hc t (by simpa using e)
      obtain ⟨o', ho', e', he, hb, hon⟩ := Region.waitsFor_spec hs2
      have : o' = ot := Option.some.inj (ho'.symm.trans hot)
      subst this
      have h2 := hall e' he hb
      have h3 := hT s hs1
      rw [hon, getD_both (inv.rest s h3.1 h3.2)] at h2
      cases h2
/-- One that may come up now may be taken first. -/
theorem mixQ_first {ls1 : Array Bool} {H : Nat → Prop} {i : Nat} {oi : Oper} {v : Value} {L : Array Bool → Act → Prop} (hi : ops[i]? = some oi) (hsel : ∀ (j : Nat) (o : Oper) cs b, ops[j]? = some o → o.op ≠ .select cs b)
    (hwait : ∀ ls, MixInv ops ls1 H ls → ∀ i, H i → ls.getD i true = false → ∀ t, t ∈ Region.ready .any ops ls → H t) (hin : H i) (hdone : ∀ ls a, L ls a → ∀ j ∈ Region.ready .any ops ls, ¬ H j) (f : Nat) :
    ∀ (ls : Array Bool) (a : Act), MixInv ops ls1 H ls →
      (∀ j oj, ops[j]? = some oj → j ≠ i → ls.getD j true = false → (∀ e ∈ oj.after, Region.binds .any e = true → e.on ≠ i) → oi.apart ops oj = true) →
      i ∈ Region.ready .any ops ls → YieldsIn P ops C oi v a → mixQ P ops C H L f (ls.setIfInBounds i true) (a.put oi.dst v) → mixQ P ops C H L (f + 1) ls a := by
  induction f with
  | zero =>
    intro ls a inv _ hr hy H'
    have hun := (mem_ready.1 hr).1
    refine ⟨List.ne_nil_of_mem hr, fun j hj => ?_⟩
    have hjn : H j := hwait ls inv i hin hun j hj
    by_cases e : j = i
    · rw [e] at hjn ⊢; exact ⟨hjn, hy.qOp hi H'⟩
    · exact absurd hjn (hdone _ _ H' j (ready_mono hj e))
  | succ f ih =>
    intro ls a inv hfree hr hy H'
    have hun := (mem_ready.1 hr).1
    refine ⟨List.ne_nil_of_mem hr, fun j hj => ?_⟩
    have hjn : H j := hwait ls inv i hin hun j hj
    by_cases e : j = i
    · rw [e] at hjn ⊢; exact ⟨hjn, hy.qOp hi H'⟩
    · refine ⟨hjn, ?_⟩
      obtain ⟨hjun, oj, hoj, hall⟩ := mem_ready.1 hj
      have hno : ∀ x ∈ oj.after, Region.binds .any x = true → x.on ≠ i := by
        intro x hx hb he
        have := hall x hx hb
        rw [he, getD_both hun] at this
        cases this
      have h2 := qOp_put hoj (hfree j oj hoj e hjun hno) (fun cs b => hsel i oi cs b hi) (fun cs b => hsel j oj cs b hoj) hy (H'.2 j (ready_mono hj e)).2
      refine qOp_mono (fun a' h3 => ih _ a' (inv.set hj hjn) (fun k ok hk hki hku hkn => hfree k ok hk hki ?_ hkn) (ready_mono hr (Ne.symm e)) h3.1 (by rw [Array.setIfInBounds_comm _ _ e]; exact h3.2)) h2
      by_cases hjk : j = k
      · rw [← hjk]; exact hjun
      · rwa [getD_set_ne true hjk] at hku
def quietsB (ops : Array Oper) (tl : List Nat) : List Nat → Array Bool → Bool
  | [], ls => tailB .any ops tl ls
  | k :: r, ls => (ops[k]?).isSome && (Region.ready .any ops ls).contains k && Region.free .any ops ls k && quietsB ops tl r (ls.setIfInBounds k true)
theorem mixQ_lex {ls1 : Array Bool} {H : Nat → Prop} {K : Act → Prop} {tl : List Nat} (hsel : Region.noSelect ops = true) (hwait : ∀ ls, MixInv ops ls1 H ls → ∀ i, H i → ls.getD i true = false → ∀ t, t ∈ Region.ready .any ops ls → H t)
    (htl : ∀ t ∈ tl, ¬ H t) (l : List Nat) :
    ∀ (ls : Array Bool) (a : Act), (∀ k ∈ l, H k) → MixInv ops ls1 H ls → quietsB ops tl l ls = true →
    wpQuiet P ops C K (l.map (ops.getD · default)) a → mixQ P ops C H (fun ls' a' => tailB .any ops tl ls' = true ∧ K a') l.length ls a := by
  have hdone : ∀ ls' (a' : Act), (tailB .any ops tl ls' = true ∧ K a') → ∀ j ∈ Region.ready .any ops ls', ¬ H j := by
    intro ls' a' h j hj
    cases tl with
    | nil => simp only [tailB, List.isEmpty_iff] at h; rw [h.1] at hj; cases hj
    | cons t r =>
      simp only [tailB, Bool.and_eq_true, decide_eq_true_eq] at h
      rw [h.1.1.1] at hj
      have : j = t := by simpa using hj
      subst this
      exact htl _ (by simp)
  induction l with
  | nil => intro ls a _ _ hB h; exact ⟨by simpa [quietsB] using hB, h⟩
  | cons k r ih =>
    intro ls a hl inv hB h
    simp only [quietsB, Bool.and_eq_true] at hB
    obtain ⟨o, ho⟩ := Option.isSome_iff_exists.1 hB.1.1.1
    have hr : k ∈ Region.ready .any ops ls := by simpa using hB.1.1.2
    have hk : ops.getD k default = o := by simp [Array.getD_eq_getD_getElem?, ho]
    rw [List.map_cons, hk] at h
    have hq : qOp P ops C k (wpQuiet P ops C K (r.map (ops.getD · default))) a := by unfold qOp; simp only [ho]; exact h
    obtain ⟨v, hy, hK⟩ := yieldsIn_of_qOp ho hq
    refine mixQ_first ho (Region.noSelect_spec hsel) hwait (hl k (by simp)) hdone r.length ls a inv (Region.free_spec ho hB.1.2) hr hy ?_
    exact ih _ _ (fun k' hk' => hl k' (List.mem_cons_of_mem _ hk')) (inv.set hr (hl k (by simp))) hB.2 hK
/-- All that the order of a mixed region asks: decided by running it. -/
def mixB (ops : Array Oper) (hd qs : List Nat) (t0 : Nat) (tr : List Nat) : Bool :=
  let ls0 := Array.replicate ops.size false
  let ls1 := markB hd ls0
  Region.noSelect ops && pureB .any ops hd ls0 && quietsB ops (t0 :: tr) qs ls1 && sinkL ops qs t0 && chainL ops (t0 :: tr) &&
    (t0 :: tr).all (fun t => !qs.contains t && !(ls1.getD t true)) && (t0 :: qs).all (fun i => decide (i < ops.size)) && decide (hd.length + (qs.length + (t0 :: tr).length) = ops.size) &&
    (List.range ops.size).all (fun i => ls1.getD i true || qs.contains i || (t0 :: tr).contains i) && decide (ls1.size = ops.size) &&
    (List.range ops.size).all (fun j => match ops[j]? with | some oj => !(ls1.getD j false) || oj.after.all (fun e => !Region.binds .any e || ls1.getD e.on false) | none => true)
end
/-- 'hd' read no memory and are taken first; 'qs' are quiet in every world that w grows to (calls may lay new memory); t0 :: tr come behind, in that order. -/
theorem wp_region_mix {P : Program} {id : Nat} {R : Exit → Act → World → Prop} {a : Act} {w : World} {l : List Oper} (hd qs : List Nat) (t0 : Nat) (tr : List Nat) (hm : P.follows .mixedOrders = true)
    (hB : mixB l.toArray hd qs t0 tr = true) (hQ : ∀ c a d v w, R (.panic c) (Act.put a d v) w → R (.panic c) a w)
    (h : wpQuiet P l.toArray (fun _ => True) (fun a' => wpQuiet P l.toArray (fun w' => ∃ m : QW w, w' = m.val) (fun a'' => ∀ w', (∃ m : QW w, w' = m.val) → wpList P l.toArray R ((t0 :: tr).map (l.toArray.getD · default)) a'' w') (qs.map (l.toArray.getD · default)) a') (hd.map (l.toArray.getD · default)) a) :
    (Code.region id l.toArray true).wp P R a w := by
  simp only [mixB, Bool.and_eq_true, decide_eq_true_eq] at hB
  obtain ⟨⟨⟨⟨⟨⟨⟨⟨⟨⟨h1, h2⟩, h3⟩, h4⟩, h5⟩, h6⟩, h7⟩, h8⟩, h9⟩, h10⟩, h11⟩ := hB
  refine wp_region_held (S := fun _ => True) hm ?_
  rw [← h8]
  have e2 : Array.replicate (hd.length + (qs.length + (t0 :: tr).length)) false = Array.replicate l.toArray.size false := by rw [h8]
  rw [e2]
  generalize hls : markB hd (Array.replicate l.toArray.size false) = ls1 at *
  refine any_head h1 hQ _ _ hd _ a h2 (wpQuiet_mono (fun a' h' => ?_) _ _ h)
  rw [hls]
  refine held_of_any _ _ _ _ ?_
  have hT : ∀ t ∈ t0 :: tr, t ∉ qs ∧ ls1.getD t true = false := by
    intro t ht
    have := List.all_eq_true.1 h6 t ht
    simpa using this
  have hsz : ∀ i ∈ t0 :: qs, i < l.toArray.size := fun i hi => by have := List.all_eq_true.1 h7 i hi; simpa using this
  have hwait : ∀ ls, MixInv l.toArray ls1 (· ∈ qs) ls → ∀ i, i ∈ qs → ls.getD i true = false → ∀ t, t ∈ Region.ready .any l.toArray ls → t ∈ qs := by
    intro ls inv i hi hun t ht
    obtain ⟨htun, ot, hot, _⟩ := mem_ready.1 ht
    have htl : t < l.toArray.size := (Array.getElem?_eq_some_iff.1 hot).1
    have := List.all_eq_true.1 h9 t (List.mem_range.2 htl)
    simp only [Bool.or_eq_true, List.contains_iff_mem] at this
    rcases this with (g | g) | g
    · rw [inv.more t g] at htun; cases htun
    · exact g
    · exact absurd ht (mix_waits hsz h4 h5 hT hsz inv _ i rfl hi hun t g)
  have inv0 : MixInv l.toArray ls1 (· ∈ qs) ls1 := ⟨h10, fun j oj hj hl e he hb => by
    have hjl : j < l.toArray.size := (Array.getElem?_eq_some_iff.1 hj).1
    have := List.all_eq_true.1 h11 j (List.mem_range.2 hjl)
    rw [hj] at this
    simp only [hl, Bool.not_true, Bool.false_or] at this
    have := Array.all_eq_true'.1 this e he
    simpa [hb] using this, fun t _ h => h, fun t h => h⟩
  have H := mixQ_lex (C := fun w' => ∃ m : QW w, w' = m.val) h1 hwait (fun t ht => (hT t ht).1) qs ls1 a' (fun k hk => hk) inv0 h3 h'
  exact any_of_mixQ (fun ls a w hw hL => wpAny_of_held _ _ _ _ (any_tail _ _ _ _ hL.1 (hL.2 w hw))) _ _ _ _ ⟨⟨w.drew, (Q.refl w).drew⟩, rfl⟩ H
/-- A whole array or struct that stands in a block is read alike in every world of the class. -/
theorem wpQuiet_load_row {P : Program} {ops : Array Oper} {C : World → Prop} {K : Act → Prop} {rest : List Oper} {o : Oper} {a : Act} (hgd : o.guard = none) (ty : TypeId) (x : Operand) (ho : o.op = .load ty x)
    (g : Nat) (hx : a.eval x = .pointer (some ⟨g, 0, none⟩)) (t : TypeId) (cs : Array Value) (fr : Nat × Nat) (d : TypeDesc) (hg : ∀ w, C w → w.heap[g]? = some (.cells cs t fr))
    (hu : P.underlying ty = some d) (hd : (match d with | .struct _ | .array _ _ => true | _ => false) = true) (hi : (P.info? ty).map (·.size) = some cs.size)
    (h : wpQuiet P ops C K rest (a.put o.dst (.agg cs))) : wpQuiet P ops C K (o :: rest) a := by
  have hw : Region.wanted o (yielded ops a.tmps) = true := by simp [Region.wanted, hgd]
  unfold wpQuiet
  rw [if_pos hw]
  refine ⟨_, fun w hC => ?_, h⟩
  unfold Oper.quietAt execOp
  simp only [ho, hx, Instr.loadAt, Instr.sureAddr, Sem.run_bind, Sem.run_pure, Result.andThen_ok, run_loadVar_row w g t ty cs fr d (hg w hC) hu hd hi]
  exact ⟨rfl, rfl⟩
/-- A conversion that answers alike in every world of the class. -/
theorem wpQuiet_conv {P : Program} {ops : Array Oper} {C : World → Prop} {K : Act → Prop} {rest : List Oper} {o : Oper} {a : Act} (hgd : o.guard = none) (s d : TypeId) (x : Operand) (ho : o.op = .convert s d x) (v u : Value)
    (hx : a.eval x = v) (hr : ∀ w, C w → (convert s d v).run P w = .ok u w) (h : wpQuiet P ops C K rest (a.put o.dst u)) : wpQuiet P ops C K (o :: rest) a := by
  have hw : Region.wanted o (yielded ops a.tmps) = true := by simp [Region.wanted, hgd]
  unfold wpQuiet
  rw [if_pos hw]
  refine ⟨_, fun w hC => ?_, h⟩
  unfold Oper.quietAt execOp
  simp only [ho, hx, Sem.run_bind, Sem.run_pure, hr w hC, Result.andThen_ok]
  exact ⟨rfl, rfl⟩
end Go.Proofs.YtbhgekhcpagkoaaDoor
/- The reference's Unhex. -/
set_option linter.unusedVariables false
namespace Go.Proofs.YtbhgekhcpagkoaaDoor
open Go Go.RowKit
theorem place_hex (c : UInt8) (w : World) : Calls Tryd.prog 59 #[.string ⟨#[48, 49, 50, 51, 52, 53, 54, 55, 56, 57, 97, 98, 99, 100, 101, 102]⟩, .int .u8 (c.toNat : Int)] w fun e w' => e = .returned (.int .i64 (hexI c)) ∧ w = w' :=
  place_any hexd c w (by decide)
set_option maxRecDepth 100000 in
set_option maxHeartbeats 4000000 in
theorem RUnhex_any (l : List UInt8) (w : World) (hl : l.length ≤ 140737488355328) : Calls Tryd.prog 49 #[.string ⟨l.toArray⟩] w (UnPost (unhexL l) w) := by
  go_enter Tryd.func49, Tryd.ntmps49
  go_wp2_with fail
  go_loop [5] (fun i => ∃ k : Nat, k ≤ l.length ∧ i = .int .i64 k ∧ Hid (∀ j, j < k → 0 ≤ hexI (gB l j))) (fun i => l.length - (intOf i).toNat)
  case atStart => exact ⟨0, by omega, rfl, Lib.hid (fun j hj => by omega)⟩
  case round =>
    obtain ⟨k, hk, rfl, hgood⟩ := hrel
    by_cases hlt : k < l.length
    · have hd : decide (k < l.length) = true := by simpa using hlt
      by_cases hbad : hexI (gB l k) < 0
      · have hdb : decide (hexI (gB l k) < 0) = true := by simpa using hbad
        have hres : unhexL l = ([], 50, (k : Int)) := by
          unfold unhexL
          rw [show badHex l = some k from find_range_some hlt (fun j hj => by have := hgood.out j hj; simp; omega) (by simpa using hbad)]
        have HR := Lib.hid hres
        clear hres
        go_wp2_with (go_at_call 59; refine (place_hex _ _).mono ?_; rintro e w' ⟨rfl, rfl⟩)
        go_ret3
        exact ⟨by rw [HR.out]; rfl, Q.refl _⟩
      · have hdb : decide (hexI (gB l k) < 0) = false := by simpa using hbad
        have hg2 : Hid (∀ j, j < k + 1 → 0 ≤ hexI (gB l j)) := Lib.hid fun j hj => by
          by_cases e : j = k
          · subst e; omega
          · exact hgood.out j (by omega)
        go_wp2_with (go_at_call 59; refine (place_hex _ _).mono ?_; rintro e w' ⟨rfl, rfl⟩)
        go_round
        case rel => exact ⟨k + 1, by omega, by go_num, hg2⟩
        case measure => simp [intOf]; omega
    · obtain rfl : k = l.length := by omega
      have hd : decide (l.length < l.length) = false := by simp
      have hbn : badHex l = none := find_range_none (fun j hj => by have := hgood.out j hj; simp; omega)
      by_cases hodd : l.length % 2 = 1
      · have ht : ((l.length : Int) % 2 == 0) = false := by simp; omega
        have hres : unhexL l = ([], 50, (l.length : Int)) := by unfold unhexL; rw [hbn]; simp [hodd]
        have HR := Lib.hid hres
        clear hres hbn
        go_wp2_with fail
        go_ret3
        exact ⟨by rw [HR.out]; rfl, Q.refl _⟩
      · have ht : ((l.length : Int) % 2 == 0) = true := by simp; omega
        have hres : unhexL l = (pairsL l (l.length / 2), 0, 0) := by unfold unhexL; rw [hbn]; simp [hodd]
        have HR := Lib.hid hres
        clear hres hbn
        go_wp2_with fail
        go_loopw [6, 7] (fun v i wr => ∃ j K : Nat, K = 2 * j ∧ K ≤ l.length ∧ i = .int .i64 K ∧ OwnB w wr v (pairsL l j) ∧ Q w wr) (fun _ i _ => l.length - (intOf i).toNat)
        case atStart => exact ⟨0, 0, rfl, by omega, rfl, OwnB.nil _ _, Q.refl _⟩
        case round =>
          obtain ⟨j, K, hK, hj, rfl, hO, hq⟩ := hrel
          by_cases hlt2 : K < l.length
          · have hd2 : decide (K < l.length) = true := by simpa using hlt2
            have hd3 : decide (K + 1 < l.length) = true := by simp; omega
            have HO := Lib.hid hO
            have HQ := Lib.hid hq
            have HKK := Lib.hid hK
            clear hO hq hK
            have hb1 := hexI_bd (gB l K)
            have hb2 := hexI_bd (gB l (K + 1))
            have hb3 := hgood.out K hlt2
            have hb4 := hgood.out (K + 1) (by have := HKK.out; omega)
            have hp : pairV l j = byteOf (16 * hexI (gB l K) + hexI (gB l (K + 1))) := by unfold pairV; rw [HKK.out]
            have hps := pairsL_succ l j
            rw [hp] at hps
            have hll : (pairsL l j).length + 1 ≤ 140737488355329 := by have := HKK.out; simp [pairsL]; omega
            have HPS := Lib.hid hps
            have HLL := Lib.hid hll
            clear hps hp hll
            go_upto_region 12 with (fail)
            have g1 : (K : Int) + 1 < (l.length : Int) := by have := HKK.out; omega
            have g2 : (0 : Int) ≤ (K : Int) + 1 := by omega
            have g3 : ((K : Int) + 1).toNat = K + 1 := by omega
            refine wp_region_mix [0, 1, 2, 3, 6, 7, 8, 9] [4, 5, 10, 11, 12] 13 [14, 15] (by kernel_rfl) (by kernel_rfl) (by intro c a d v w h; cases d <;> exact h) ?_
            simp only [List.map_cons, List.map_nil, Array.getD_eq_getD_getElem?, List.getElem?_toArray, List.getElem?_cons_succ, List.getElem?_cons_zero, Option.getD_some]
            (repeat (go_big_quiet_step (fail)))
            refine wpQuiet_nil ?_
            (repeat (go_big_quiet_step ((go_at_call 59; exact calls_qs (place_hex _ _)))))
            refine wpQuiet_nil ?_
            rintro wx ⟨mx, hmx⟩
            have hqx : Q wr wx := by rw [hmx]; exact mx.le
            clear hmx mx
            clear g1 g2 g3
            have hby : ((byteOf (16 * hexI (gB l K) + hexI (gB l (K + 1)))).toNat : Int) = 16 * hexI (gB l K) + hexI (gB l (K + 1)) := byteOf_int _ (by omega) (by omega)
            rw [← hby]
            clear hby
            generalize byteOf (16 * hexI (gB l K) + hexI (gB l (K + 1))) = BB at *
            generalize hF : pairsL l j = F at *
            clear hF
            have HO1 := Lib.hid (HO.out.q hqx)
            have HQ1 := Lib.hid (HQ.out.trans hqx)
            go_wp2_with (at_builtin; refine wpList_append_b rfl (.tmp 32) (.tmp 45) rfl w wx _ F (by rfl) HO1.out HQ1.out [BB] 1 rfl (by rfl) (by have := HLL.out; omega) ?_; intro v9 w9 hown9 hq9 _; have HO9 := Lib.hid hown9; have HQ9 := Lib.hid hq9; clear hown9 hq9)
            go_roundw
            case rel => exact ⟨j + 1, K + 2, by have := HKK.out; omega, by have := HKK.out; omega, by go_num, by rw [HPS.out]; exact HO9.out, HQ9.out⟩
            case measure => simp [intOf]; omega
          · obtain rfl : K = l.length := by omega
            have hd2 : decide (l.length < l.length) = false := by simp
            rw [show j = l.length / 2 from by omega] at hO
            have hcv := conv_b hO
            have HQ := Lib.hid hq
            clear hO hq hK
            go_wp2_with fail
            go_ret3
            exact ⟨by rw [HR.out]; rfl, HQ.out⟩
end Go.Proofs.YtbhgekhcpagkoaaDoor
/- Parts: whether one may be. -/
set_option linter.unusedVariables false
set_option linter.unusedSimpArgs false
namespace Go.Proofs.YtbhgekhcpagkoaaDoor
open Go Go.RowKit
def sumT (t : List UInt8) : List UInt8 := (unhexL t).1
def sumB (t : List UInt8) : Bool := decide ((unhexL t).2.1 = 0) && decide ((unhexL t).1.length = 16)
def mayB (p : PartD) : Bool := sumB p.tag && (decide (1 ≤ p.num) && (decide (p.num ≤ 20) && (decide (0 ≤ p.size) && decide (p.size ≤ 8000))))
theorem unhex_len (t : List UInt8) (h : (unhexL t).2.1 = 0) : t.length = 2 * (unhexL t).1.length := by
  unfold unhexL at *
  cases hb : badHex t with
  | some i => rw [hb] at h; simp at h
  | none =>
    rw [hb] at h
    simp only at h ⊢
    by_cases h2 : t.length % 2 = 1
    · rw [if_pos h2] at h; simp at h
    · rw [if_neg h2]; simp [pairsL]; omega
theorem sumB_ref (t : List UInt8) : (decide ((unhexL t).2.1 = 0) && decide (t.length = 32)) = sumB t := by
  unfold sumB
  by_cases h : (unhexL t).2.1 = 0
  · have := unhex_len t h
    rw [decide_eq_true h]
    simp only [Bool.true_and, decide_eq_decide]
    omega
  · simp [h]
set_option maxHeartbeats 1000000 in
theorem sum_any' (t : List UInt8) (w : World) (hl : t.length ≤ 140737488355328) : Calls Tryd.prog 29 #[.string ⟨t.toArray⟩] w fun e w' => e = .returned (.tuple #[.string ⟨(sumT t).toArray⟩, .bool (sumB t)]) ∧ Q w w' := by
  unfold sumB sumT
  have HU := fun w => Unhex_any t w (by omega)
  generalize unhexL t = r at *
  go_enter Tryd.func29, Tryd.ntmps29
  go_wp2_with fail
  refine (HU _).mono ?_
  clear HU
  rintro e w1 ⟨rfl, hq⟩
  obtain ⟨a, x, y⟩ := r
  simp only
  by_cases h : x = 0
  · subst h
    by_cases h16 : a.length = 16
    · have g : (a.length : Int) = 16 := by omega
      have g1 : ((a.length : Int) == 16) = true := by simpa using g
      clear g
      go_wp2_with fail
      go_ret2
      exact ⟨by simp [h16], hq⟩
    · have g1 : ((a.length : Int) == 16) = false := by simp; omega
      go_wp2_with fail
      go_ret2
      exact ⟨by simp [h16], hq⟩
  · have g1 : (x == 0) = false := by simpa using h
    go_wp2_with fail
    go_ret2
    exact ⟨by simp [h], hq⟩
set_option maxHeartbeats 1000000 in
theorem rsum_any (t : List UInt8) (w : World) (hl : t.length ≤ 140737488355328) : Calls Tryd.prog 36 #[.string ⟨t.toArray⟩] w fun e w' => e = .returned (.tuple #[.string ⟨(sumT t).toArray⟩, .bool (sumB t)]) ∧ Q w w' := by
  rw [← sumB_ref]
  unfold sumT
  have HU := fun w => RUnhex_any t w hl
  generalize unhexL t = r at *
  go_enter Tryd.func36, Tryd.ntmps36
  go_wp2_with fail
  refine (HU _).mono ?_
  clear HU
  rintro e w1 ⟨rfl, hq⟩
  obtain ⟨a, x, y⟩ := r
  simp only
  by_cases h : x = 0
  · subst h
    by_cases h16 : t.length = 32
    · have g : (t.length : Int) = 32 := by omega
      have g1 : ((t.length : Int) == 32) = true := by simpa using g
      clear g
      go_wp2_with fail
      go_ret2
      exact ⟨by simp [h16], hq⟩
    · have g1 : ((t.length : Int) == 32) = false := by simp; omega
      go_wp2_with fail
      go_ret2
      exact ⟨by simp [h16], hq⟩
  · have g1 : (x == 0) = false := by simpa using h
    go_wp2_with fail
    go_ret2
    exact ⟨by simp [h], hq⟩
/-- A part in a box. -/
def BoxP (w : World) (b : Nat) (p : PartD) : Prop := w.heap[b]? = some (.cells (partL p).toArray 31 (0, 0))
theorem BoxP.new (w : World) (p : PartD) : BoxP (w.alloc (.cells (partL p).toArray 31)) w.heap.size p := (MapKept.heap_alloc w _).1
theorem BoxP.q {w w' : World} {b : Nat} {p : PartD} (h : BoxP w b p) (hq : Q w w') : BoxP w' b p := hq.block h
theorem BoxP.c0 {w : World} {b : Nat} {p : PartD} (h : BoxP w b p) : w.cell? ⟨b, 0, none⟩ = some (.int .i64 p.num) := by rw [cell_of_row _ _ _ _ _ _ h]; rfl
theorem BoxP.c1 {w : World} {b : Nat} {p : PartD} (h : BoxP w b p) : w.cell? ⟨b, 1, none⟩ = some (.int .i64 p.size) := by rw [cell_of_row _ _ _ _ _ _ h]; rfl
theorem BoxP.c2 {w : World} {b : Nat} {p : PartD} (h : BoxP w b p) : w.cell? ⟨b, 2, none⟩ = some (.int .i64 p.time) := by rw [cell_of_row _ _ _ _ _ _ h]; rfl
theorem BoxP.c3 {w : World} {b : Nat} {p : PartD} (h : BoxP w b p) : w.cell? ⟨b, 3, none⟩ = some (.string ⟨p.tag.toArray⟩) := by rw [cell_of_row _ _ _ _ _ _ h]; rfl
theorem BoxP.c4 {w : World} {b : Nat} {p : PartD} (h : BoxP w b p) : w.cell? ⟨b, 4, none⟩ = some (.int .i64 p.blob) := by rw [cell_of_row _ _ _ _ _ _ h]; rfl
theorem BoxP.lt {w : World} {b : Nat} {p : PartD} (h : BoxP w b p) : b < w.heap.size := (Array.getElem?_eq_some_iff.1 h).1
set_option maxHeartbeats 2000000 in
theorem may_any (p : PartD) (w : World) (hl : p.tag.length ≤ 140737488355328) : Calls Tryd.prog 24 #[partV p] w fun e w' => e = .returned (.bool (mayB p)) ∧ Q w w' := by
  obtain ⟨num, size, time, tag, blob⟩ := p
  simp only at hl
  unfold partV partL mayB
  simp only
  go_enter Tryd.func24, Tryd.ntmps24
  go_wp2_with fail
  refine (sum_any' tag _ hl).mono ?_
  rintro e w1 ⟨rfl, hq⟩
  have hb : BoxP w1 w.heap.size ⟨num, size, time, tag, blob⟩ := BoxP.q (BoxP.new w ⟨num, size, time, tag, blob⟩) hq
  have c0 := hb.c0
  have c1 := hb.c1
  have hq0 : Q w w1 := ((Q.refl w).alloc _).trans hq
  clear hb hq
  cases hs : sumB tag with
  | false =>
    go_wp2_with fail
    go_ret
    exact ⟨by simp [hs], hq0⟩
  | true =>
    by_cases a1 : 1 ≤ num
    · by_cases a2 : num ≤ 20
      · by_cases a3 : 0 ≤ size
        · by_cases a4 : size ≤ 8000
          · have d1 : decide (1 ≤ num) = true := by simpa using a1
            have d2 : decide (num ≤ 20) = true := by simpa using a2
            have d3 : decide (0 ≤ size) = true := by simpa using a3
            have d4 : decide (size ≤ 8000) = true := by simpa using a4
            clear a1 a2 a3 a4
            go_wp2_with fail
            go_ret
            exact ⟨by simp [hs, d1, d2, d3, d4], hq0⟩
          · have d1 : decide (1 ≤ num) = true := by simpa using a1
            have d2 : decide (num ≤ 20) = true := by simpa using a2
            have d3 : decide (0 ≤ size) = true := by simpa using a3
            have d4 : decide (size ≤ 8000) = false := by simpa using a4
            clear a1 a2 a3 a4
            go_wp2_with fail
            go_ret
            exact ⟨by simp [hs, d1, d2, d3, d4], hq0⟩
        · have d1 : decide (1 ≤ num) = true := by simpa using a1
          have d2 : decide (num ≤ 20) = true := by simpa using a2
          have d3 : decide (0 ≤ size) = false := by simpa using a3
          clear a1 a2 a3
          go_wp2_with fail
          go_ret
          exact ⟨by simp [hs, d1, d2, d3], hq0⟩
      · have d1 : decide (1 ≤ num) = true := by simpa using a1
        have d2 : decide (num ≤ 20) = false := by simpa using a2
        clear a1 a2
        go_wp2_with fail
        go_ret
        exact ⟨by simp [hs, d1, d2], hq0⟩
    · have d1 : decide (1 ≤ num) = false := by simpa using a1
      clear a1
      go_wp2_with fail
      go_ret
      exact ⟨by simp [hs, d1], hq0⟩
set_option maxHeartbeats 2000000 in
theorem one_any (p : PartD) (w : World) (hl : p.tag.length ≤ 140737488355328) : Calls Tryd.prog 35 #[partV p] w fun e w' => e = .returned (.bool (mayB p)) ∧ Q w w' := by
  obtain ⟨num, size, time, tag, blob⟩ := p
  simp only at hl
  unfold partV partL mayB
  simp only
  go_enter Tryd.func35, Tryd.ntmps35
  go_wp2_with fail
  refine (rsum_any tag _ hl).mono ?_
  rintro e w1 ⟨rfl, hq⟩
  have hb : BoxP w1 w.heap.size ⟨num, size, time, tag, blob⟩ := BoxP.q (BoxP.new w ⟨num, size, time, tag, blob⟩) hq
  have c0 := hb.c0
  have c1 := hb.c1
  have hq0 : Q w w1 := ((Q.refl w).alloc _).trans hq
  clear hb hq
  cases hs : sumB tag with
  | false =>
    go_wp2_with fail
    go_ret
    exact ⟨by simp [hs], hq0⟩
  | true =>
    by_cases a1 : 1 ≤ num
    · by_cases a2 : num ≤ 20
      · by_cases a3 : 0 ≤ size
        · by_cases a4 : size ≤ 8000
          · have d1 : decide (1 ≤ num) = true := by simpa using a1
            have d2 : decide (num ≤ 20) = true := by simpa using a2
            have d3 : decide (0 ≤ size) = true := by simpa using a3
            have d4 : decide (size ≤ 8000) = true := by simpa using a4
            clear a1 a2 a3 a4
            go_wp2_with fail
            go_ret
            exact ⟨by simp [hs, d1, d2, d3, d4], hq0⟩
          · have d1 : decide (1 ≤ num) = true := by simpa using a1
            have d2 : decide (num ≤ 20) = true := by simpa using a2
            have d3 : decide (0 ≤ size) = true := by simpa using a3
            have d4 : decide (size ≤ 8000) = false := by simpa using a4
            clear a1 a2 a3 a4
            go_wp2_with fail
            go_ret
            exact ⟨by simp [hs, d1, d2, d3, d4], hq0⟩
        · have d1 : decide (1 ≤ num) = true := by simpa using a1
          have d2 : decide (num ≤ 20) = true := by simpa using a2
          have d3 : decide (0 ≤ size) = false := by simpa using a3
          clear a1 a2 a3
          go_wp2_with fail
          go_ret
          exact ⟨by simp [hs, d1, d2, d3], hq0⟩
      · have d1 : decide (1 ≤ num) = true := by simpa using a1
        have d2 : decide (num ≤ 20) = false := by simpa using a2
        clear a1 a2
        go_wp2_with fail
        go_ret
        exact ⟨by simp [hs, d1, d2], hq0⟩
    · have d1 : decide (1 ≤ num) = false := by simpa using a1
      clear a1
      go_wp2_with fail
      go_ret
      exact ⟨by simp [hs, d1], hq0⟩
end Go.Proofs.YtbhgekhcpagkoaaDoor
/- Parts: whether numbers rise. -/
set_option linter.unusedVariables false
set_option linter.unusedSimpArgs false
namespace Go.Proofs.YtbhgekhcpagkoaaDoor
open Go Go.RowKit
def riseB (ps : List PartD) : Bool := (List.range (ps.length - 1)).all fun i => decide ((gP ps i).num < (gP ps (i + 1)).num)
theorem riseB_true {ps : List PartD} (h : ∀ j, j + 1 < ps.length → (gP ps j).num < (gP ps (j + 1)).num) : riseB ps = true := by
  unfold riseB
  rw [List.all_eq_true]
  intro i hi
  exact decide_eq_true (h i (by have := List.mem_range.1 hi; omega))
theorem riseB_false {ps : List PartD} (j : Nat) (hj : j + 1 < ps.length) (h : ¬ (gP ps j).num < (gP ps (j + 1)).num) : riseB ps = false := by
  unfold riseB
  rw [List.all_eq_false]
  exact ⟨j, List.mem_range.2 (by omega), by simpa using h⟩
theorem riseB_spec {ps : List PartD} (h : riseB ps = true) (j : Nat) (hj : j + 1 < ps.length) : (gP ps j).num < (gP ps (j + 1)).num := by
  unfold riseB at h
  exact of_decide_eq_true (List.all_eq_true.1 h j (List.mem_range.2 (by omega)))
set_option maxRecDepth 100000 in
set_option maxHeartbeats 2000000 in
theorem rise_any (A : Option Addr) (n cap : Nat) (ps : List PartD) (w : World) (h : PartsAt w A n ps) (hn : n ≤ 9223372036854775807) : Calls Tryd.prog 25 #[.slice A n cap] w fun e w' => e = .returned (.bool (riseB ps)) ∧ Q w w' := by
  have hnl := Lib.hid h.1
  go_enter Tryd.func25, Tryd.ntmps25
  go_wp2_with fail
  go_loopw [3] (fun i wr => ∃ k : Nat, 1 ≤ k ∧ k ≤ n + 1 ∧ i = .int .i64 (k : Int) ∧ Hid (∀ j, j + 1 < k → (gP ps j).num < (gP ps (j + 1)).num) ∧ Q w wr) (fun i _ => n + 1 - (intOf i).toNat)
  case atStart => exact ⟨1, by omega, by omega, rfl, fun j hj => by omega, Q.refl _⟩
  case round =>
    obtain ⟨k, hk1, hk, rfl, hr, hq⟩ := hrel
    have HQ := Lib.hid hq
    by_cases hlt : k < n
    · obtain ⟨g, off, rfl, c, _⟩ := (h.q hq).at hlt
      obtain ⟨g', off', hA, c', _⟩ := (h.q hq).at (show k - 1 < n by omega)
      obtain ⟨rfl, rfl⟩ : g' = g ∧ off' = off := by cases hA; exact ⟨rfl, rfl⟩
      have g1 : decide ((k : Int) < (n : Int)) = true := by simp; omega
      have ck : ∀ m : QW wr, m.val.cell? ⟨g', off' + k * 5, none⟩ = some (.int .i64 (gP ps k).num) := fun m => m.cell c
      have ck' : ∀ m : QW wr, m.val.cell? ⟨g', off' + (k - 1) * 5, none⟩ = some (.int .i64 (gP ps (k - 1)).num) := fun m => m.cell c'
      have hk1' : (0 : Int) ≤ (k : Int) - 1 := by omega
      have hk2' : (k : Int) - 1 < (n : Int) := by omega
      have hkt : ((k : Int) - 1).toNat = k - 1 := by omega
      have hnb : (n : Int) ≤ 9223372036854775807 := by omega
      clear hq c c' hA h
      by_cases hv : (gP ps k).num ≤ (gP ps (k - 1)).num
      · have g2 : decide ((gP ps k).num ≤ (gP ps (k - 1)).num) = true := by simpa using hv
        have HF := Lib.hid (riseB_false (ps := ps) (k - 1) (by rw [← hnl.out]; omega) (by rw [show k - 1 + 1 = k by omega]; omega))
        clear hv
        go_wp2_with fail
        refine wp_region_q (by kernel_rfl) (by kernel_rfl) ?_
        (repeat (go_big_quiet_step (fail)))
        refine wpQuiet_nil ?_
        rintro wa ⟨ma, hma⟩
        have hqa : Q wr wa := by rw [hma]; exact ma.le
        go_wp2_with fail
        go_ret
        exact ⟨by rw [HF.out]; rfl, HQ.out.trans hqa⟩
      · have g2 : decide ((gP ps k).num ≤ (gP ps (k - 1)).num) = false := by simpa using hv
        have HV := Lib.hid hv
        clear hv
        go_wp2_with fail
        refine wp_region_q (by kernel_rfl) (by kernel_rfl) ?_
        (repeat (go_big_quiet_step (fail)))
        refine wpQuiet_nil ?_
        rintro wa ⟨ma, hma⟩
        have hqa : Q wr wa := by rw [hma]; exact ma.le
        go_wp2_with fail
        go_roundw
        case rel =>
          refine ⟨k + 1, by omega, by omega, by go_num, ?_, HQ.out.trans ma.le⟩
          intro j hj
          by_cases e : j + 1 < k
          · exact hr.out j e
          · obtain rfl : j = k - 1 := by omega
            rw [show k - 1 + 1 = k by omega]
            have := HV.out
            omega
        case measure => simp [intOf]; omega
    · have g1 : decide ((k : Int) < (n : Int)) = false := by simp; omega
      have HT := Lib.hid (riseB_true (ps := ps) (fun j hj => hr.out j (by have := hnl.out; omega)))
      clear hq
      go_wp2_with fail
      go_ret
      exact ⟨by rw [HT.out]; rfl, HQ.out⟩
def rightB (ps : List PartD) : Bool := riseB ps && ps.all mayB
/-- The parts' texts are no longer than a machine holds. -/
def OkP (ps : List PartD) : Prop := ∀ p ∈ ps, p.tag.length ≤ 140737488355328
theorem OkP.at {ps : List PartD} (h : OkP ps) (j : Nat) (hj : j < ps.length) : (gP ps j).tag.length ≤ 140737488355328 := by
  have : gP ps j = ps[j] := by simp [gP, List.getD, hj]
  rw [this]; exact h _ (List.getElem_mem hj)
abbrev PartK := { p : PartD // p.tag.length ≤ 140737488355328 }
instance : Inhabited PartK := ⟨⟨default, by decide⟩⟩
def okL (ps : List PartD) (h : OkP ps) : List PartK := ps.attach.map fun x => ⟨x.1, h x.1 x.2⟩
theorem okL_map (ps : List PartD) (h : OkP ps) : (okL ps h).map (·.1) = ps := by unfold okL; simp
theorem okL_len (ps : List PartD) (h : OkP ps) : (okL ps h).length = ps.length := by unfold okL; simp
theorem okL_at (ps : List PartD) (h : OkP ps) (j : Nat) (hj : j < ps.length) : ((okL ps h)[j]!).1 = ps[j] := by
  have h1 : j < (okL ps h).length := by rw [okL_len]; exact hj
  rw [getElem!_pos (okL ps h) j h1]
  have e := List.getElem_of_eq (okL_map ps h) (i := j) (by rw [List.length_map]; exact h1)
  rw [List.getElem_map] at e
  exact e
set_option maxHeartbeats 1000000 in
theorem bad_any (x : PartK) (w : World) : Calls Tryd.prog 42 #[partV x.1] w fun e w' => e = .returned (.bool (!mayB x.1)) ∧ Q w w' := by
  obtain ⟨⟨num, size, time, tag, blob⟩, hx⟩ := x
  have hm := fun w => may_any ⟨num, size, time, tag, blob⟩ w hx
  unfold partV partL at *
  simp only at hm ⊢
  go_enter Tryd.func42, Tryd.ntmps42
  go_wp2_with fail
  refine (hm _).mono ?_
  rintro e w1 ⟨rfl, hq⟩
  clear hm
  go_wp2_with fail
  go_ret
  exact ⟨rfl, ((Q.refl w).alloc _).trans hq⟩
theorem pred_bad (w : World) : PredBelow Tryd.prog 42 #[] (fun x : PartK => .agg (partL x.1).toArray) (fun x => !mayB x.1) w := fun W x hb =>
  (bad_any x W).mono fun e w' ⟨he, hq⟩ => ⟨he, hb.trans (Below.mono hq hb.size)⟩
set_option maxHeartbeats 1000000 in
theorem index_0 (A : Option Addr) (cap : Nat) (f : Value) (w : World) : Calls Tryd.prog 26 #[.slice A 0 cap, f] w fun e w' => e = .returned (.int .i64 (-1)) ∧ Q w w' := by
  go_enter Tryd.func26, Tryd.ntmps26
  go_wp2_with fail
  go_loopw [8] (fun i wr => i = .int .i64 0 ∧ Q w wr) (fun i _ => (intOf i).toNat)
  case atStart => exact ⟨rfl, Q.refl _⟩
  case round =>
    obtain ⟨rfl, hq⟩ := hrel
    have HQ := Lib.hid hq
    clear hq
    go_wp2_with fail
    go_ret
    exact ⟨rfl, HQ.out⟩
set_option maxHeartbeats 1000000 in
theorem contains_0 (A : Option Addr) (cap : Nat) (f : Value) (w : World) : Calls Tryd.prog 41 #[.slice A 0 cap, f] w fun e w' => e = .returned (.bool false) ∧ Q w w' := by
  go_enter Tryd.func41, Tryd.ntmps41
  go_wp2_with fail
  refine (index_0 A cap f _).mono ?_
  rintro e w1 ⟨rfl, hq⟩
  go_wp2_with fail
  go_ret
  exact ⟨rfl, hq⟩
theorem any_bad (ps : List PartD) (h : OkP ps) : ((okL ps h).any fun x => !mayB x.1) = !ps.all mayB := by
  have e : (okL ps h).any (fun x => !mayB x.1) = ((okL ps h).map (·.1)).any (fun p => !mayB p) := by rw [List.any_map]; rfl
  rw [e, okL_map, List.not_all_eq_any_not]
theorem enters_bad : ∀ args w, (callFunc 42 args).run Tryd.prog w = .ok (.enter 42 args) w := enters_of Tryd.func42 (by kernel_rfl) rfl
theorem contains_bad (A : Option Addr) (n cap : Nat) (ps : List PartD) (w : World) (h : PartsAt w A n ps) (hok : OkP ps) (hn : n ≤ 9223372036854775807) :
    Calls Tryd.prog 41 #[.slice A n cap, .func (.func 42) #[] #[]] w fun e w' => e = .returned (.bool (!ps.all mayB)) ∧ Q w w' := by
  by_cases h0 : n = 0
  · subst h0
    have : ps = [] := List.eq_nil_of_length_eq_zero h.1.symm
    subst this
    exact contains_0 A cap _ w
  · obtain ⟨g, off, rfl, hg, hc⟩ := h.2 (by omega)
    have hl := okL_len ps hok
    have := AnyQ.slices_ContainsFunc lPa8 5 Tryd.isAgg31 Tryd.sizeOf31 (fun x : PartK => partL x.1) (fun _ => rfl) (fun x => !mayB x.1) 42 #[] enters_bad g off n cap (okL ps hok) w (pred_bad w)
      (by rw [hl, ← h.1]; exact Nat.le_refl _) hn hg (fun j hj i v hv => hc j (by rw [← hl]; exact hj) i v (by rw [okL_at ps hok j (by rw [← hl]; exact hj)] at hv; exact hv))
    refine this.mono ?_
    rintro e w' ⟨rfl, hb⟩
    rw [List.take_of_length_le (by rw [hl, h.1]; exact Nat.le_refl _), any_bad]
    exact ⟨rfl, hb⟩
set_option maxHeartbeats 1000000 in
theorem right_any (A : Option Addr) (n cap : Nat) (ps : List PartD) (w : World) (h : PartsAt w A n ps) (hok : OkP ps) (hn : n ≤ 9223372036854775807) : Calls Tryd.prog 23 #[.slice A n cap] w fun e w' => e = .returned (.bool (rightB ps)) ∧ Q w w' := by
  unfold rightB
  go_enter Tryd.func23, Tryd.ntmps23
  go_wp2_with fail
  refine (rise_any A n cap ps _ h hn).mono ?_
  rintro e w1 ⟨rfl, hq⟩
  cases hr : riseB ps with
  | false =>
    go_wp2_with fail
    go_ret
    exact ⟨by rw [hr]; rfl, hq⟩
  | true =>
    go_wp2_with fail
    refine (contains_bad A n cap ps _ (h.q hq) hok hn).mono ?_
    rintro e w2 ⟨rfl, hq2⟩
    go_wp2_with fail
    go_ret
    exact ⟨by rw [hr]; simp, hq.trans hq2⟩
end Go.Proofs.YtbhgekhcpagkoaaDoor
/- Parts: the document's Right. -/
set_option linter.unusedVariables false
set_option linter.unusedSimpArgs false
namespace Go.Proofs.YtbhgekhcpagkoaaDoor
open Go Go.RowKit
theorem all_gP {ps : List PartD} {f : PartD → Bool} : ps.all f = true ↔ ∀ j, j < ps.length → f (gP ps j) = true := by
  rw [List.all_eq_true]
  constructor
  · intro h j hj
    have : gP ps j = ps[j] := by simp [gP, List.getD, hj]
    rw [this]; exact h _ (List.getElem_mem hj)
  · intro h p hp
    obtain ⟨j, hj, rfl⟩ := List.getElem_of_mem hp
    have := h j hj
    have e : gP ps j = ps[j] := by simp [gP, List.getD, hj]
    rwa [e] at this
theorem right_true {ps : List PartD} (h1 : ∀ j, j < ps.length → mayB (gP ps j) = true) (h2 : ∀ j, j + 1 < ps.length → (gP ps j).num < (gP ps (j + 1)).num) : rightB ps = true := by
  unfold rightB; rw [riseB_true h2, all_gP.2 h1]; rfl
theorem right_no {ps : List PartD} (j : Nat) (hj : j < ps.length) (h : mayB (gP ps j) = false) : rightB ps = false := by
  unfold rightB
  have : ps.all mayB = false := by
    cases e : ps.all mayB with
    | false => rfl
    | true => have := all_gP.1 e j hj; rw [h] at this; cases this
  rw [this, Bool.and_false]
theorem right_nr {ps : List PartD} (j : Nat) (hj : j + 1 < ps.length) (h : ¬ (gP ps j).num < (gP ps (j + 1)).num) : rightB ps = false := by
  unfold rightB; rw [riseB_false j hj h, Bool.false_and]
set_option maxRecDepth 100000 in
set_option maxHeartbeats 4000000 in
theorem Right_any (A : Option Addr) (n cap : Nat) (ps : List PartD) (w : World) (h : PartsAt w A n ps) (hok : OkP ps) (hn : n ≤ 9223372036854775807) : Calls Tryd.prog 34 #[.slice A n cap] w fun e w' => e = .returned (.bool (rightB ps)) ∧ Q w w' := by
  have hnl := Lib.hid h.1
  go_enter Tryd.func34, Tryd.ntmps34
  go_wp2_with fail
  go_loopw [3] (fun i wr => ∃ k : Nat, k ≤ n ∧ i = .int .i64 (k : Int) ∧ Hid (∀ j, j < k → mayB (gP ps j) = true) ∧ Hid (∀ j, j + 1 < k → (gP ps j).num < (gP ps (j + 1)).num) ∧ Q w wr) (fun i _ => n - (intOf i).toNat)
  case atStart => exact ⟨0, by omega, rfl, fun j hj => by omega, fun j hj => by omega, Q.refl _⟩
  case round =>
    obtain ⟨k, hk, rfl, hm, hr, hq⟩ := hrel
    have HQ := Lib.hid hq
    by_cases hlt : k < n
    · obtain ⟨g, off, rfl, c0, c1, c2, c3, c4⟩ := (h.q hq).at hlt
      have hPA := Lib.hid (h.q hq)
      have hkl : k < ps.length := by rw [← hnl.out]; exact hlt
      have hone := Lib.hid (fun w => one_any (gP ps k) w (hok.at k hkl))
      have g1 : decide ((k : Int) < (n : Int)) = true := by simp; omega
      have hnb : (n : Int) ≤ 9223372036854775807 := by omega
      have hv : partV (gP ps k) = .agg #[.int .i64 (gP ps k).num, .int .i64 (gP ps k).size, .int .i64 (gP ps k).time, .string ⟨(gP ps k).tag.toArray⟩, .int .i64 (gP ps k).blob] := rfl
      rw [hv] at hone
      clear hv hq h
      go_wp2_with fail
      refine (hone.out _).mono ?_
      rintro e w1 ⟨rfl, hq1⟩
      have hPA := Lib.hid (hPA.out.q hq1)
      have HQ := Lib.hid (HQ.out.trans hq1)
      clear c0 c1 c2 c3 c4 hone hq1
      cases hb : mayB (gP ps k) with
      | false =>
        have HF := Lib.hid (right_no k hkl hb)
        go_wp2_with fail
        refine wp_region_q (by kernel_rfl) (by kernel_rfl) ?_
        (repeat (go_big_quiet_step (fail)))
        refine wpQuiet_nil ?_
        rintro wa ⟨ma, hma⟩
        have hqa : Q w1 wa := by rw [hma]; exact ma.le
        go_wp2_with fail
        go_ret
        exact ⟨by rw [HF.out]; rfl, HQ.out.trans hqa⟩
      | true =>
        have hb' := Lib.hid hb
        clear hb
        by_cases hk0 : k = 0
        · have g2 : decide (0 < k) = false := by simp; omega
          have HK0 := Lib.hid hk0
          clear hk0
          go_wp2_with fail
          refine wp_region_q (by kernel_rfl) (by kernel_rfl) ?_
          (repeat (go_big_quiet_step (fail)))
          refine wpQuiet_nil ?_
          rintro wa ⟨ma, hma⟩
          have hqa : Q w1 wa := by rw [hma]; exact ma.le
          go_wp2_with fail
          go_roundw
          case rel =>
            refine ⟨k + 1, hlt, by go_num, ?_, ?_, HQ.out.trans ma.le⟩
            · intro j hj
              by_cases e : j = k
              · subst e; exact hb'.out
              · exact hm.out j (by omega)
            · intro j hj
              by_cases e : j + 1 < k
              · exact hr.out j e
              · have := HK0.out; omega
          case measure => simp [intOf]; omega
        · have g2 : decide (0 < k) = true := by simp; omega
          have hk1' : (0 : Int) ≤ (k : Int) - 1 := by omega
          have hk2' : (k : Int) - 1 < (n : Int) := by omega
          have hkt : ((k : Int) - 1).toNat = k - 1 := by omega
          obtain ⟨_, _, hA, c0, _⟩ := hPA.out.at hlt
          cases hA
          obtain ⟨_, _, hA, c0', _⟩ := hPA.out.at (show k - 1 < n by omega)
          cases hA
          have ck : ∀ m : QW w1, m.val.cell? ⟨g, off + k * 5, none⟩ = some (.int .i64 (gP ps k).num) := fun m => m.cell c0
          have ck' : ∀ m : QW w1, m.val.cell? ⟨g, off + (k - 1) * 5, none⟩ = some (.int .i64 (gP ps (k - 1)).num) := fun m => m.cell c0'
          clear c0 c0'
          by_cases hv : (gP ps k).num ≤ (gP ps (k - 1)).num
          · have g3 : decide ((gP ps k).num ≤ (gP ps (k - 1)).num) = true := by simpa using hv
            have HF := Lib.hid (right_nr (ps := ps) (k - 1) (by omega) (by rw [show k - 1 + 1 = k by omega]; omega))
            clear hv
            go_wp2_with fail
            refine wp_region_q (by kernel_rfl) (by kernel_rfl) ?_
            (repeat (go_big_quiet_step (fail)))
            refine wpQuiet_nil ?_
            rintro wa ⟨ma, hma⟩
            have hqa : Q w1 wa := by rw [hma]; exact ma.le
            go_wp2_with fail
            go_ret
            exact ⟨by rw [HF.out]; rfl, HQ.out.trans hqa⟩
          · have g3 : decide ((gP ps k).num ≤ (gP ps (k - 1)).num) = false := by simpa using hv
            have HV := Lib.hid hv
            clear hv
            go_wp2_with fail
            refine wp_region_q (by kernel_rfl) (by kernel_rfl) ?_
            (repeat (go_big_quiet_step (fail)))
            refine wpQuiet_nil ?_
            rintro wa ⟨ma, hma⟩
            have hqa : Q w1 wa := by rw [hma]; exact ma.le
            go_wp2_with fail
            go_roundw
            case rel =>
              refine ⟨k + 1, hlt, by go_num, ?_, ?_, HQ.out.trans ma.le⟩
              · intro j hj
                by_cases e : j = k
                · subst e; exact hb'.out
                · exact hm.out j (by omega)
              · intro j hj
                by_cases e : j + 1 < k
                · exact hr.out j e
                · obtain rfl : j = k - 1 := by omega
                  rw [show k - 1 + 1 = k by omega]; have := HV.out; omega
            case measure => simp [intOf]; omega
    · obtain rfl : k = n := by omega
      have g1 : decide ((k : Int) < (k : Int)) = false := by simp
      have HT := Lib.hid (right_true (ps := ps) (fun j hj => hm.out j (by rw [hnl.out]; exact hj)) (fun j hj => hr.out j (by rw [hnl.out]; exact hj)))
      clear hq hk
      go_wp2_with fail
      go_ret
      exact ⟨by rw [HT.out]; rfl, HQ.out⟩
end Go.Proofs.YtbhgekhcpagkoaaDoor
/- Parts: slices of parts of the call's own. -/
set_option linter.unusedVariables false
set_option linter.unusedSimpArgs false
namespace Go.Proofs.YtbhgekhcpagkoaaDoor
open Go Go.RowKit
theorem info_part : (Tryd.prog.info? 31).map (fun i => (i.zero, i.size, i.bytes)) = some (some (.agg #[.int .i64 0, .int .i64 0, .int .i64 0, .string ⟨#[]⟩, .int .i64 0]), 5, 48) := by kernel_rfl
def cellsP (ps : List PartD) : List Value := ps.flatMap partL
theorem partL_len (p : PartD) : (partL p).length = 5 := rfl
theorem cellsP_len (ps : List PartD) : (cellsP ps).length = ps.length * 5 := by
  induction ps with
  | nil => rfl
  | cons p r ih => simp only [cellsP, List.flatMap_cons, List.length_append, partL_len, List.length_cons] at *; omega
theorem cellsP_app (a b : List PartD) : cellsP (a ++ b) = cellsP a ++ cellsP b := by simp [cellsP]
theorem cellsP_one (p : PartD) : cellsP [p] = partL p := by simp [cellsP]
theorem cellsP_at (ps : List PartD) : ∀ (j : Nat) (h : j < ps.length) (i : Nat), i < 5 → (cellsP ps)[j * 5 + i]? = (partL ps[j])[i]? := by
  induction ps with
  | nil => intro j h; simp at h
  | cons p r ih =>
    intro j h i hi
    have e : cellsP (p :: r) = partL p ++ cellsP r := by simp [cellsP]
    rw [e]
    cases j with
    | zero => rw [Nat.zero_mul, Nat.zero_add, List.getElem?_append_left (by rw [partL_len]; exact hi)]; rfl
    | succ j =>
      rw [List.getElem?_append_right (by rw [partL_len]; omega), partL_len, show (j + 1) * 5 + i - 5 = j * 5 + i by omega, ih j (by simpa using h) i hi]
      rfl
theorem cellsP_one' (ps : List PartD) : ∀ u ∈ cellsP ps, u.oneCell' = true := by
  intro u hu
  obtain ⟨p, _, hp⟩ := List.mem_flatMap.1 hu
  simp only [partL, List.mem_cons, List.not_mem_nil, or_false] at hp
  rcases hp with rfl | rfl | rfl | rfl | rfl <;> rfl
/-- A slice of parts that the call has made since w0. -/
def OwnP (w0 w : World) (v : Value) (ps : List PartD) : Prop := w.ownsRow w0.heap.size 31 5 v ps.length (cellsP ps)
theorem OwnP.nil (w0 w : World) : OwnP w0 w (.slice none 0 0) [] := ⟨rfl, .inl ⟨rfl, rfl⟩⟩
theorem OwnP.g {w0 w w' : World} {v : Value} {ps : List PartD} {row : Option Nat} (h : OwnP w0 w v ps) (hg : w.grownBy w' row) (hr : ∀ k, v.ownBlock = some k → row ≠ some k) : OwnP w0 w' v ps := by
  refine ⟨h.1, ?_⟩
  rcases h.2 with h2 | ⟨g, cap, cur, hv, h1, h2, h3⟩
  · exact .inl h2
  · refine .inr ⟨g, cap, cur, hv, h1, ?_, h3⟩
    rw [hg.block g (Array.getElem?_eq_some_iff.1 h2).1 (fun e => hr g (by rw [hv]; rfl) e.symm)]
    exact h2
theorem Q.gb' {w w' : World} (hq : Q w w') (row : Option Nat) : w.grownBy w' row := ⟨hq.os, hq.tape, hq.output, hq.size, fun k hk _ => Below.block hq k hk⟩
theorem OwnP.q {w0 w w' : World} {v : Value} {ps : List PartD} (h : OwnP w0 w v ps) (hq : Q w w') : OwnP w0 w' v ps := h.g (hq.gb' none) (fun _ _ e => by cases e)
theorem OwnP.base {w0 w1 w : World} {v : Value} {ps : List PartD} (h : OwnP w1 w v ps) (hq : w0.heap.size ≤ w1.heap.size) : OwnP w0 w v ps := by
  refine ⟨h.1, ?_⟩
  rcases h.2 with h2 | ⟨g, cap, cur, hv, h1, h2⟩
  · exact .inl h2
  · exact .inr ⟨g, cap, cur, hv, by omega, h2⟩
theorem OwnP.block {w0 w : World} {v : Value} {ps : List PartD} (h : OwnP w0 w v ps) {k : Nat} (hk : v.ownBlock = some k) : w0.heap.size ≤ k ∧ k < w.heap.size := by
  rcases h.2 with ⟨rfl, _⟩ | ⟨g, cap, cur, rfl, h1, h2, _⟩
  · cases hk
  · have := (Array.getElem?_eq_some_iff.1 h2).1
    simp [Value.ownBlock] at hk; omega
theorem OwnP.parts {w0 w : World} {v : Value} {ps : List PartD} (h : OwnP w0 w v ps) : ∃ A cap, v = .slice A ps.length cap ∧ ps.length ≤ cap ∧ cap ≤ 9223372036854775807 ∧ PartsAt w A ps.length ps ∧
    (∀ g off, A = some ⟨g, off, none⟩ → off = 0 ∧ w0.heap.size ≤ g ∧ ∀ i, w.frozen? ⟨g, i, none⟩ = false) := by
  rcases h.2 with ⟨rfl, h0⟩ | ⟨g, cap, cur, rfl, hb, hh, hn, hm, hcs, ht⟩
  · exact ⟨none, 0, by rw [h0], by omega, by omega, ⟨rfl, fun h1 => absurd h1 (by omega)⟩, fun g off e => by cases e⟩
  · refine ⟨_, cap, rfl, hn, hm, ⟨rfl, fun _ => ⟨g, 0, rfl, (Array.getElem?_eq_some_iff.1 hh).1, fun j hj i v hv => ?_⟩⟩, fun g' off e => by cases e; exact ⟨rfl, hb, fun i => frozen_of_row w g i _ _ hh⟩⟩
    have hi : i < 5 := by have := (List.getElem?_eq_some_iff.1 hv).1; rw [partL_len] at this; exact this
    rw [cell_of_row _ _ _ _ _ _ hh, Nat.zero_add]
    have e := cellsP_at ps j hj i hi
    rw [hv, ← ht, List.getElem?_take, if_pos (by omega)] at e
    rw [← e]; simp
/-- append(l, p). -/
theorem wpList_append_p {ops : Array Oper} {rest : List Oper} {o : Oper} {a : Act} {R : Exit → Act → World → Prop} (hgd : o.guard = none) (s x : Operand)
    (ho : o.op = .call { callee := .builtin .append, args := #[s, x], argTypes := #[22, 22] })
    (w0 W : World) (v : Value) (ps : List PartD) (p : PartD) (hs : a.eval s = v) (hown : OwnP w0 W v ps) (hx : a.eval x = .slice (some ⟨W.heap.size, 0, none⟩) 1 1) (hq : Q w0 W) (hb : (ps.length + 1) * 48 ≤ 140737488355328)
    (h : ∀ v' w', OwnP w0 w' v' (ps ++ [p]) → Q w0 w' → (W.grownBy w' v.ownBlock ∧ (v'.ownBlock = v.ownBlock ∨ v'.ownBlock = some (W.heap.size + 1))) → wpList Tryd.prog ops R rest (a.put o.dst v') w') : wpList Tryd.prog ops R (o :: rest) a (W.alloc (.cells (partL p).toArray 31)) := by
  obtain ⟨i, hi, hz, hsz, hby⟩ := info_parts info_part
  have hA : ∀ k, v.ownBlock = some k → w0.heap.size ≤ k := fun k hk => (hown.block hk).1
  have hown1 : OwnP w0 (W.alloc (.cells (partL p).toArray 31)) v ps := hown.q ((Q.refl W).alloc _)
  refine wpList_append_own_at (w := W.alloc (.cells (partL p).toArray 31)) hgd s x 22 ho w0.heap.size 31 i _ 5 48 Tryd.underlying22 hi hz hsz hby rfl (by decide) v ps.length (cellsP ps) hs hown1 ⟨W.heap.size, 0, none⟩ 1 1 (partL p) hx rfl ?_ ?_ (by unfold maxLen; omega) hb (by have := hq.size; simp; omega) ?_
  · intro j u hj
    have e : (Addr.add ⟨W.heap.size, 0, none⟩ j) = ⟨W.heap.size, j, none⟩ := by unfold Addr.add; split <;> simp_all
    rw [e, cell_of_row _ _ _ _ _ _ (MapKept.heap_alloc W _).1]
    simpa using hj
  · rw [← cellsP_one]; exact cellsP_one' [p]
  · intro v' w' h2 hg _ hb2
    have hg2 : W.grownBy w' v.ownBlock := (World.grownBy_alloc W _ _).trans hg
    refine h v' w' ?_ ?_ ⟨hg2, by simpa using hb2⟩
    · unfold OwnP; rw [cellsP_app, cellsP_one, List.length_append]; exact h2
    · exact Below.grown hq hg2 hq.size (fun k hk => hA k hk)
end Go.Proofs.YtbhgekhcpagkoaaDoor
