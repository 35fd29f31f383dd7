/- A range over a function whose iterator keeps a variable of its own in cells (its first block). -/
import Derived.RangeFuncNested
import Derived.RangeFuncBound
import Derived.RangeFuncCalls
import Derived.RangeFuncLeaves
import Derived.Test.YteadblkkbbhpjaaRnd
set_option linter.unusedVariables false
namespace Go.Proofs.Yteadblkkbbhpjaa
open Go Go.RowKit
/-- No row of bytes. -/
def NotRow (o : Obj) : Prop := ∀ c fz, o ≠ .cells c 5 fz
/-- It does not turn on what block B holds, nor on new blocks. -/
def AbT {β : Type} (B : Nat) (J : β → World → Prop) : Prop := ∀ s W W' row, J s W → W.grownBy W' row → (∀ r, row = some r → r = B) → (∀ r o, row = some r → W.heap[r]? = some o → NotRow o) → J s W'
/-- The same for the three blocks from B on. -/
def OwnT {β : Type} (B : Nat) (I : β → World → Prop) : Prop := ∀ s W W' row, I s W → W.grownBy W' row → (∀ r, row = some r → B ≤ r ∧ r < B + 3) → (∀ r o, row = some r → W.heap[r]? = some o → NotRow o) → I s W'
theorem OwnT.putObj {β : Type} {B : Nat} {I : β → World → Prop} (h : OwnT B I) {s : β} {W : World} {l : Nat} {o : Obj} (o' : Obj) (hs : I s W) (ho : W.heap[l]? = some o) (hn : NotRow o) (hl : B ≤ l ∧ l < B + 3) : I s (W.putObj l o') :=
  h s W _ (some l) hs (grownBy_putObj' W l o') (fun r e => by cases e; exact hl) (fun r x e hx => by cases e; rw [ho] at hx; cases hx; exact hn)
theorem OwnT.alloc {β : Type} {B : Nat} {I : β → World → Prop} (h : OwnT B I) {s : β} {W : World} (o : Obj) (hs : I s W) : I s (W.alloc o) :=
  h s W _ none hs (World.grownBy_alloc W o none) (fun r e => by cases e) (fun r o e => by cases e)
/-- These blocks lie as they lay. -/
structure KeepL (ks : List Nat) (W W' : World) : Prop where
  size : W.heap.size ≤ W'.heap.size
  same : ∀ k ∈ ks, W'.heap[k]? = W.heap[k]?
theorem KeepL.refl (ks : List Nat) (W : World) : KeepL ks W W := ⟨Nat.le_refl _, fun _ _ => rfl⟩
theorem KeepL.trans {ks : List Nat} {X Y Z : World} (h : KeepL ks X Y) (k : KeepL ks Y Z) : KeepL ks X Z := ⟨Nat.le_trans h.size k.size, fun i hi => (k.same i hi).trans (h.same i hi)⟩
theorem KeepL.sub {ks ks' : List Nat} {X Y : World} (h : KeepL ks X Y) (hs : ∀ k ∈ ks', k ∈ ks) : KeepL ks' X Y := ⟨h.size, fun i hi => h.same i (hs i hi)⟩
theorem KeepL.putObj {ks : List Nat} {W : World} {l : Nat} (o : Obj) (hl : l ∉ ks) : KeepL ks W (W.putObj l o) :=
  ⟨by simp, fun k hk => World.putObj_heap_other (fun e => hl (e ▸ hk))⟩
/-- What the iterator promises: b0: a block that it reads. -/
def SeqC {α : Type} (P : Program) (g : Nat) (lb : Array Value) (encs : α → Array Value) (b0 : Nat) (S Sp : List α → Prop) (G : List α → α → Prop) (Pre : World → Prop) : Prop :=
  ∀ (n l : Nat) (J Jx : List α → World → Prop) (W : World), Pre W → b0 < W.heap.size → AbT W.heap.size J → AbT W.heap.size Jx →
    (∀ pre x W1, J pre W1 → G pre x → W.heap.size < W1.heap.size → (∀ k ∈ [b0, W.heap.size], ∀ o, W1.heap[k]? = some o → NotRow o) → YieldAt Fence.wide n P l (encs x) W1 fun e W' =>
      (e = .returned (.bool true) ∧ J (pre ++ [x]) W' ∧ KeepL [b0, W.heap.size] W1 W') ∨ (e = .returned (.bool false) ∧ Jx (pre ++ [x]) W')) →
    J [] W →
    CallsIn Fence.wide (n + 1) P g (#[.func (.yield l) #[] #[]] ++ lb) W fun e W' => (∃ v, e = .returned v) ∧ ((∃ xs, S xs ∧ J xs W') ∨ (∃ pre, Sp pre ∧ Jx pre W'))
def postC {α : Type} (B b0 : Nat) (I : List α → World → Prop) (Ix : Code → List α → World → Prop) (xs : List α) (W : World) : Exit → Act → World → Prop
  | .normal, _, W' => KeepL [b0, B, B + 1, B + 2] W W' ∧ I xs W'
  | .ret, _, W' => KeepL [B, B + 1] W W' ∧ Ix .ret xs W'
  | .exit id, _, W' => KeepL [B, B + 1] W W' ∧ Ix (.exit id) xs W'
  | .goto t, _, W' => KeepL [B, B + 1] W W' ∧ Ix (.goto t) xs W'
  | .panic _, _, _ => False
  | .outgrown, _, _ => False
theorem postC_out {α : Type} {B b0 : Nat} {I : List α → World → Prop} {Ix : Code → List α → World → Prop} {xs : List α} {W : World} : ¬ LetsOut (postC B b0 I Ix xs W) := fun ⟨_, _, h⟩ => h
theorem wp_rangeFunc_c {P : Program} {α : Type} {g : Operand} {ps : Array Tmp} {assign body : Code} {Q : Exit → Act → World → Prop} {a : Act} {w : World} {n : Nat}
    {gf : Nat} {lb : Array Value} (hg : a.eval g = .func (.func gf) #[] lb) (eg : ∀ args w, (callFunc gf args).run P w = .ok (.enter gf args) w)
    {encs : α → Array Value} {b0 : Nat} {S Sp : List α → Prop} {G : List α → α → Prop} {Pre : World → Prop} (hseq : SeqC P gf lb encs b0 S Sp G Pre) (hb0 : b0 < w.heap.size)
    (hPre : ∀ W, w.grownBy W none → Pre W) (hps : ∀ x, (encs x).size = ps.size)
    (I : List α → World → Prop) (Ix : Code → List α → World → Prop) (hI : OwnT w.heap.size I) (hIx : ∀ c, OwnT w.heap.size (Ix c)) (h0 : I [] w) (Ax : α → Act → World → Prop) (hAx : ∀ x a', OwnT (β := Unit) w.heap.size (fun _ W => Ax x a' W))
    (hassign : ∀ (l : Nat) (x : α) (W : World) (K : Act → World → Prop), w.heap.size + 2 < W.heap.size → (∀ a' W', W.grownBy W' none → Ax x a' W' → K a' W') →
      assign.wpIn (Fence.wide.inRound l) n P (Exit.then K (fun _ _ _ => False)) { tmps := (ps.zip (encs x)).foldl (fun t (p, v) => t.setIfInBounds p v) a.tmps, defers := [] } W)
    (hbody : ∀ (l : Nat) (pre : List α) (x : α) (a' : Act) (W : World), I pre W → G pre x → w.heap.size + 2 < W.heap.size → (∀ k ∈ [b0, w.heap.size, w.heap.size + 1, w.heap.size + 2], ∀ o, W.heap[k]? = some o → NotRow o) → Ax x a' W → body.wpIn (Fence.wide.inRound l) n P (postC w.heap.size b0 I Ix (pre ++ [x]) W) a' W)
    (hdone : ∀ (D : Nat) (xs : List α) (W : World), w.heap.size ≤ D → D < w.heap.size + 2 → S xs → I xs W → W.heap[D]? = some (.deferred (some [])) → Q .normal { a with defers := { target := .collected D, args := #[] } :: a.defers } W)
    (hstop : ∀ (D : Nat) (c : Code) (pre : List α) (W : World), w.heap.size ≤ D → D < w.heap.size + 2 → Sp pre → Ix c pre W → W.heap[D]? = some (.deferred (some [])) → c.wpIn Fence.wide (n + 1 + 1) P Q { a with defers := { target := .collected D, args := #[] } :: a.defers } W) :
    (Code.rangeFunc g ps assign body).wpIn Fence.wide (n + 1 + 1) P Q a w := by
  refine wpIn_rangeFunc ?_
  intro fn hfn
  rw [show Fence.wide.round = none from rfl]
  obtain ⟨rec, hrec⟩ : ∃ rec : LoopState → Option Code → Loop, rec = fun st pe => { state := st, pending := pe, fn, tmps := a.tmps, params := ps, assign, body, defers := w.heap.size } := ⟨_, rfl⟩
  obtain ⟨W1, hW1⟩ : ∃ W1, (w.alloc (.deferred (some []))).alloc (.loop (rec .ready none)) = W1 := ⟨_, rfl⟩
  have hsz1 : W1.heap.size = w.heap.size + 2 := by rw [← hW1]; simp
  have hL1 : W1.heap[w.heap.size + 1]? = some (.loop (rec .ready none)) := by
    rw [← hW1]; have := World.alloc_heap_new (w.alloc (.deferred (some []))) (.loop (rec .ready none)); rwa [World.size_alloc] at this
  have hK1 : W1.heap[w.heap.size]? = some (.deferred (some [])) := by
    rw [← hW1]; exact (Below.heap_alloc _ _ _ (by simp)).trans (World.alloc_heap_new w _)
  have hI1 : I [] W1 := by rw [← hW1]; exact hI.alloc _ (hI.alloc _ h0)
  have hg1 : w.grownBy W1 none := by rw [← hW1]; exact ⟨rfl, rfl, rfl, by simp; omega, fun k hk _ => (Below.heap_alloc _ _ _ (by simp; omega)).trans (Below.heap_alloc _ _ _ hk)⟩
  refine ⟨w.heap.size + 1, [{ target := .collected w.heap.size, args := #[] }], W1, { target := .fn (.func gf) lb, args := #[.func (.yield (w.heap.size + 1)) #[] #[]] }, W1, gf,
    #[.func (.yield (w.heap.size + 1)) #[] #[]] ++ lb, W1, ?_, ?_, ?_, ?_, fun _ => by omega, ?_⟩
  · rw [← hW1, hrec]; exact run_enterLoop_outer _ _ _ _ _
  · simp only [resolve, hg]
    simp [go_sem]
  · intro f' hf'; trivial
  · simp [invoke, go_sem, eg]
  · refine (hseq n (w.heap.size + 1)
      (fun pre W => I pre W ∧ W.heap[w.heap.size + 1]? = some (.loop (rec .ready none)) ∧ W.heap[w.heap.size]? = some (.deferred (some [])))
      (fun pre W => ∃ c, Ix c pre W ∧ W.heap[w.heap.size + 1]? = some (.loop (rec .done (some c))) ∧ W.heap[w.heap.size]? = some (.deferred (some [])))
      W1 (hPre _ hg1) (by omega)
      (fun s A B row hs hg' hr hn => ⟨hI s A B row hs.1 hg' (fun r e => by have := hr r e; omega) hn, (hg'.block _ (Array.getElem?_eq_some_iff.1 hs.2.1).1 (fun e => by have := hr _ e.symm; omega)).trans hs.2.1, (hg'.block _ (Array.getElem?_eq_some_iff.1 hs.2.2).1 (fun e => by have := hr _ e.symm; omega)).trans hs.2.2⟩)
      (fun s A B row hs hg' hr hn => by
        obtain ⟨c, hc, hl, hk⟩ := hs
        exact ⟨c, hIx c s A B row hc hg' (fun r e => by have := hr r e; omega) hn, (hg'.block _ (Array.getElem?_eq_some_iff.1 hl).1 (fun e => by have := hr _ e.symm; omega)).trans hl, (hg'.block _ (Array.getElem?_eq_some_iff.1 hk).1 (fun e => by have := hr _ e.symm; omega)).trans hk⟩)
      ?_ ⟨hI1, hL1, hK1⟩).mono ?_
    · rintro pre x W ⟨hi, hl, hk⟩ hlen hWs hnr
      have hlt : w.heap.size + 1 < W.heap.size := (Array.getElem?_eq_some_iff.1 hl).1
      have hy := run_yield (P := P) (args := encs x) hl (by rw [hrec]; exact hps x)
      rw [hrec] at hy
      refine ⟨fn, _, assign, body, hy, roundIn_of_wpIn hfn (hassign _ x W _ (by omega) ?_)⟩
      intro a' Wa hgr hax
      have hla : Wa.heap[w.heap.size + 1]? = some (.loop (rec .ready none)) := (hgr.block _ hlt (by simp)).trans hl
      have hka : Wa.heap[w.heap.size]? = some (.deferred (some [])) := (hgr.block _ (by omega) (by simp)).trans hk
      have hia : I pre Wa := hI _ _ _ none hi hgr (fun r e => by cases e) (fun r o e => by cases e)
      have hlta : w.heap.size + 1 < Wa.heap.size := (Array.getElem?_eq_some_iff.1 hla).1
      have hsza := hgr.size
      refine ⟨_, run_beginRound hla (by rw [hrec]), ?_⟩
      have hl2 : (Wa.putObj (w.heap.size + 1) (.loop { rec .ready none with state := .busy })).heap[w.heap.size + 1]? = some (.loop { rec .ready none with state := .busy }) := World.putObj_heap_same hlta
      have hk2 : (Wa.putObj (w.heap.size + 1) (.loop { rec .ready none with state := .busy })).heap[w.heap.size]? = some (.deferred (some [])) := (World.putObj_heap_other (by omega)).trans hka
      have hnr2 : ∀ k ∈ [b0, w.heap.size, w.heap.size + 1, w.heap.size + 2], ∀ o, (Wa.putObj (w.heap.size + 1) (.loop { rec .ready none with state := .busy })).heap[k]? = some o → NotRow o := by
        intro k hk' o ho
        simp only [List.mem_cons, List.not_mem_nil, or_false] at hk'
        rcases hk' with rfl | rfl | rfl | rfl
        · rw [World.putObj_heap_other (by omega), hgr.block _ (by omega) (by simp)] at ho
          exact hnr _ (by simp) o ho
        · rw [hk2] at ho; cases ho; intro c fz h; cases h
        · rw [hl2] at ho; cases ho; intro c fz h; cases h
        · rw [World.putObj_heap_other (by omega), hgr.block _ (by omega) (by simp)] at ho
          exact hnr _ (by rw [hsz1]; simp) o ho
      refine wpIn_mono (hbody _ pre x a' _ (hI.putObj _ hia hla (fun _ _ h => by cases h) (by omega)) hlen (by simp; omega) hnr2 ((hAx x a').putObj (s := ()) _ hax hla (fun _ _ h => by cases h) (by omega))) ?_
      have hw2 : KeepL [b0, W1.heap.size] W (Wa.putObj (w.heap.size + 1) (.loop { rec .ready none with state := .busy })) := KeepL.trans (Y := Wa) ⟨hsza, fun k hk' => hgr.block k (by simp at hk'; rcases hk' with rfl | rfl <;> omega) (by simp)⟩ (KeepL.putObj _ (by simp; omega))
      have fin : ∀ (jump : Option Code) (W3 : World), KeepL [w.heap.size, w.heap.size + 1] (Wa.putObj (w.heap.size + 1) (.loop { rec .ready none with state := .busy })) W3 →
          (Instr.endRound (w.heap.size + 1) jump).run P W3 = .ok (.bool jump.isNone) (W3.putObj (w.heap.size + 1) (.loop (rec (if jump.isNone then .ready else .done) jump))) ∧
          W3.heap[w.heap.size + 1]? = some (.loop { rec .ready none with state := .busy }) ∧
          (W3.putObj (w.heap.size + 1) (.loop (rec (if jump.isNone then .ready else .done) jump))).heap[w.heap.size + 1]? = some (.loop (rec (if jump.isNone then .ready else .done) jump)) ∧
          (W3.putObj (w.heap.size + 1) (.loop (rec (if jump.isNone then .ready else .done) jump))).heap[w.heap.size]? = some (.deferred (some [])) := fun jump W3 hk3 => by
        have hl3 := (hk3.same (w.heap.size + 1) (by simp)).trans hl2
        have := run_endRound (P := P) jump hl3
        rw [hrec] at this ⊢
        exact ⟨this, by rw [hrec] at hl3; exact hl3, World.putObj_heap_same (Array.getElem?_eq_some_iff.1 hl3).1, (World.putObj_heap_other (by omega)).trans ((hk3.same w.heap.size (by simp)).trans hk2)⟩
      rintro e a3 W3 hp
      cases e with
      | normal =>
        obtain ⟨hk3, hi3⟩ := hp
        obtain ⟨hr, hl3, hl4, hk4⟩ := fin none W3 (hk3.sub (by simp))
        refine ⟨_, _, hr, .inl ⟨rfl, ⟨hI.putObj _ hi3 hl3 (fun _ _ h => by cases h) (by omega), hl4, hk4⟩, (hw2.trans (hk3.sub ?_)).trans (KeepL.putObj _ (by simp; omega))⟩⟩
        rw [hsz1]; simp
      | ret =>
        obtain ⟨hk3, hi3⟩ := hp
        obtain ⟨hr, hl3, hl4, hk4⟩ := fin (some .ret) W3 hk3
        exact ⟨_, _, hr, .inr ⟨rfl, .ret, (hIx _).putObj _ hi3 hl3 (fun _ _ h => by cases h) (by omega), hl4, hk4⟩⟩
      | exit id =>
        obtain ⟨hk3, hi3⟩ := hp
        obtain ⟨hr, hl3, hl4, hk4⟩ := fin (some (.exit id)) W3 hk3
        exact ⟨_, _, hr, .inr ⟨rfl, .exit id, (hIx _).putObj _ hi3 hl3 (fun _ _ h => by cases h) (by omega), hl4, hk4⟩⟩
      | goto t =>
        obtain ⟨hk3, hi3⟩ := hp
        obtain ⟨hr, hl3, hl4, hk4⟩ := fin (some (.goto t)) W3 hk3
        exact ⟨_, _, hr, .inr ⟨rfl, .goto t, (hIx _).putObj _ hi3 hl3 (fun _ _ h => by cases h) (by omega), hl4, hk4⟩⟩
      | panic ch => exact hp.elim
      | outgrown => exact hp.elim
    · rintro e W2 ⟨⟨v, rfl⟩, (⟨xs, hS, hi, hl, hk⟩ | ⟨pre, hSp, c, hi, hl, hk⟩)⟩
      · exact ⟨none, _, by have := run_endLoop (P := P) hl (by rw [hrec]; simp); rw [hrec] at this; exact this, hdone _ xs _ (Nat.le_refl _) (by omega) hS (hI.putObj _ hi hl (fun _ _ h => by cases h) (by omega)) ((World.putObj_heap_other (by omega)).trans hk)⟩
      · exact ⟨some c, _, by have := run_endLoop (P := P) hl (by rw [hrec]; simp); rw [hrec] at this; exact this, hstop _ c pre _ (Nat.le_refl _) (by omega) hSp ((hIx c).putObj _ hi hl (fun _ _ h => by cases h) (by omega)) ((World.putObj_heap_other (by omega)).trans hk)⟩
end Go.Proofs.Yteadblkkbbhpjaa
