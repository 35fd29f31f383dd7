/- Worlds that change listed blocks alone. -/
import Derived.Test.YteadblkkbbhpjaaBase
import Derived.Laws.Rows
set_option linter.unusedVariables false
namespace Go.Proofs.Yteadblkkbbhpjaa
open Go Go.RowKit
theorem lt_of_heap {w : World} {g : Nat} {o : Obj} (h : w.heap[g]? = some o) : g < w.heap.size := by
  rcases Nat.lt_or_ge g w.heap.size with h1 | h1
  · exact h1
  · rw [Array.getElem?_eq_none h1] at h; cases h
theorem Q.setRow {a b : World} (h : Q a b) {g : Nat} (hg : a.heap.size ≤ g) (cs : Array Value) : Q a (b.setRow g cs) :=
  Q.below h ⟨rfl, rfl, rfl, by simp, fun k hk => by
    simp only [World.setRow, Array.getElem?_modify]
    rw [if_neg (by omega)]⟩
theorem add_off (g o n : Nat) : (⟨g, o, none⟩ : Addr).add n = ⟨g, o + n, none⟩ := by
  unfold Addr.add; split <;> simp_all
/-- Nothing that stood in w has changed, but in these blocks. -/
structure GX (S : List Nat) (w w' : World) : Prop where
  os : w'.os = w.os
  tape : w'.tape = w.tape
  output : w'.output = w.output
  size : w.heap.size ≤ w'.heap.size
  block : ∀ k, k < w.heap.size → k ∉ S → w'.heap[k]? = w.heap[k]?
theorem GX.refl (S : List Nat) (w : World) : GX S w w := ⟨rfl, rfl, rfl, Nat.le_refl _, fun _ _ _ => rfl⟩
theorem GX.trans {S : List Nat} {a b c : World} (h : GX S a b) (k : GX S b c) : GX S a c :=
  ⟨k.os.trans h.os, k.tape.trans h.tape, k.output.trans h.output, Nat.le_trans h.size k.size, fun i hi hr => (k.block i (Nat.lt_of_lt_of_le hi h.size) hr).trans (h.block i hi hr)⟩
theorem GX.mono {S S' : List Nat} {a b : World} (h : GX S a b) (hs : ∀ x ∈ S, x ∈ S') : GX S' a b :=
  ⟨h.os, h.tape, h.output, h.size, fun k hk hn => h.block k hk (fun hm => hn (hs k hm))⟩
theorem GX.gb {S : List Nat} {a b : World} {k : Nat} (h : a.grownBy b (some k)) (hk : k ∈ S) : GX S a b :=
  ⟨h.os, h.tape, h.output, h.size, fun i hi hn => h.block i hi (by intro e; injection e with e; exact hn (e ▸ hk))⟩
theorem GX.q {S : List Nat} {a b : World} (h : Q a b) : GX S a b := ⟨h.os, h.tape, h.output, h.size, fun k hk _ => Below.block h k hk⟩
theorem GX.drew {S : List Nat} {a b : World} (h : GX S a b) : GX S a b.drew := ⟨h.os, h.tape, h.output, h.size, h.block⟩
theorem GX.set {S : List Nat} {a b : World} (h : GX S a b) {g : Nat} (hg : g ∈ S) (i : Nat) (v : Value) : GX S a (b.setCell ⟨g, i, none⟩ v) :=
  ⟨h.os, h.tape, h.output, by simpa using h.size, fun k hk hr => by
    rw [heap_setCell_other b ⟨g, i, none⟩ k v (by intro e; exact hr (by rw [e]; exact hg))]; exact h.block k hk hr⟩
theorem GX.setRow {S : List Nat} {a b : World} (h : GX S a b) {g : Nat} (hg : g ∈ S) (cs : Array Value) : GX S a (b.setRow g cs) :=
  ⟨h.os, h.tape, h.output, by simpa [World.setRow] using h.size, fun k hk hr => by
    simp only [World.setRow, Array.getElem?_modify]
    rw [if_neg (by intro e; exact hr (by rw [← e]; exact hg))]
    exact h.block k hk hr⟩
/-- What changed new blocks alone. -/
theorem GX.toQ {S : List Nat} {w a b : World} (h : GX S a b) (hq : Q w a) (hn : ∀ k ∈ S, w.heap.size ≤ k) : Q w b :=
  Q.below hq ⟨h.os, h.tape, h.output, by have := h.size; have := hq.size; omega, fun k hk => h.block k (Nat.lt_of_lt_of_le hk hq.size) (fun hm => by have := hn k hm; omega)⟩
theorem GX.heap {S : List Nat} {a b : World} (h : GX S a b) {k : Nat} {o : Obj} (hk : k ∉ S) (ho : a.heap[k]? = some o) : b.heap[k]? = some o :=
  (h.block k (lt_of_heap ho) hk).trans ho
end Go.Proofs.Yteadblkkbbhpjaa
