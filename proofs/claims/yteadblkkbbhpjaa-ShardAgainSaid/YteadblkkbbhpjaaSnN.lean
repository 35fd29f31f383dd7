/- what Seal and Open of shard stand on: boxes, a builder beside other blocks, the iterator's making. -/
import Derived.Test.YteadblkkbbhpjaaSnM
import Derived.Shelf.Strings.BuilderK
set_option linter.unusedVariables false
namespace Go.Proofs.Yteadblkkbbhpjaa
open Go Go.RowKit
/-- A variable in a box. -/
def BoxV (w : World) (b : Nat) (v : Value) (t : TypeId) : Prop := w.heap[b]? = some (.cells #[v] t (0, 0))
theorem BoxV.c {w : World} {b : Nat} {v : Value} {t : TypeId} (h : BoxV w b v t) : w.cell? ⟨b, 0, none⟩ = some v := by rw [cell_of_row _ _ _ _ _ _ h]; rfl
theorem BoxV.q {w w' : World} {b : Nat} {v : Value} {t : TypeId} (h : BoxV w b v t) (hq : Q w w') : BoxV w' b v t := hq.block h
theorem BoxV.new (w : World) (v : Value) (t : TypeId) : BoxV (w.alloc (.cells #[v] t)) w.heap.size v t := World.alloc_heap_new w _
theorem BoxV.below {B : Nat} {w w' : World} {b : Nat} {v : Value} {t : TypeId} (h : BoxV w b v t) (hb : Below B w w') (hlt : b < B) : BoxV w' b v t := (Below.block hb b hlt).trans h
theorem BoxV.kept {w w' : World} {b c : Nat} {v : Value} {t e : TypeId} (h : BoxV w b v t) (hk : Lib.OthersKept e (some c) w w') (hc : b ≠ c) (ht : t ≠ e) : BoxV w' b v t :=
  hk b _ h (by simpa using hc) (fun c fz e => by cases e; exact ht rfl)
theorem BoxV.lt {w : World} {b : Nat} {v : Value} {t : TypeId} (h : BoxV w b v t) : b < w.heap.size := (Array.getElem?_eq_some_iff.1 h).1
theorem BoxV.grown {w w' : World} {row : Option Nat} {b : Nat} {v : Value} {t : TypeId} (h : BoxV w b v t) (hg : w.grownBy w' row) (hr : row ≠ some b) : BoxV w' b v t := (hg.block b h.lt hr.symm).trans h
theorem blocks_mk (n : Int) (w : World) : Calls Try.prog 44 #[.int .i64 n] w fun e w' => e = .returned (.func (.func 65) #[] #[.pointer (some ⟨w.heap.size, 0, none⟩)]) ∧ w' = w.alloc (.cells #[.int .i64 n] 3) := by
  go_enter Try.func44, Try.ntmps44
  go_wp2
  go_ret
  exact ⟨rfl, rfl⟩
/-- A builder in block b: its bytes lie at or behind B. -/
def BF (B b : Nat) (l : List UInt8) (w : World) : Prop := Lib.IsBuilderF 56 5 B b (Lib.byteCells l) w
theorem BF.new (B : Nat) (w : World) (hq : B ≤ w.heap.size) : BF B w.heap.size [] (w.alloc (.cells #[.pointer none, .slice none 0 0] 56)) :=
  Lib.IsBuilderF.of (.inl ⟨hq, .slice none 0 0, (MapKept.heap_alloc w _).1, ⟨by simp [Lib.byteCells], .inl ⟨rfl, rfl⟩⟩, by simp [Value.ownBlock]⟩)
theorem BF.lt {B b : Nat} {l : List UInt8} {w : World} (h : BF B b l w) : B ≤ b ∧ b < w.heap.size := by
  rcases h with h | h <;> exact ⟨h.1, h.lt⟩
/-- The blocks of a world that a builder's write may turn: its own, and rows of bytes. -/
theorem bfWrite (B b : Nat) (l s : List UInt8) (w : World) (h : BF B b l w) (hl : l.length + s.length ≤ 140737488355328) (hB : B ≤ w.heap.size) :
    Calls Try.prog 42 #[.pointer (some ⟨b, 0, none⟩), .string ⟨s.toArray⟩] w fun e w' => e = .returned (.tuple #[.int .i64 s.length, .nilIface]) ∧ BF B b (l ++ s) w' ∧ Below B w w' ∧ Lib.OthersKept 5 (some b) w w' :=
  (Any.Builder_WriteString_k lays166 infoBuilder B b (Lib.byteCells l) ⟨s.toArray⟩ w h (by rw [byteCells_length]; exact hl) hB).mono fun e w' ⟨h1, h2, h3, h4⟩ =>
    ⟨h1, .inr (by rw [byteCells_append, ← strCells_list s]; exact h2), h3, h4⟩
theorem bfString (B b : Nat) (l : List UInt8) (w : World) (h : BF B b l w) (hB : B ≤ w.heap.size) :
    Calls Try.prog 45 #[.pointer (some ⟨b, 0, none⟩)] w fun e w' => e = .returned (.string ⟨l.toArray⟩) ∧ Below B w w' ∧ Lib.OthersKept 5 (some b) w w' :=
  (Try.Builder_String_any_k B b l w h hB).mono fun e w' ⟨h1, _, h3, h4⟩ => ⟨h1, h3, h4⟩
theorem BF.grown {B b : Nat} {l : List UInt8} {w w' : World} {row : Option Nat} (h : BF B b l w) (hg : w.grownBy w' row) (hr : ∀ r o, row = some r → w.heap[r]? = some o → (∀ c fz, o ≠ .cells c 5 fz) ∧ r ≠ b) : BF B b l w' := by
  have go : ∀ p, Lib.BuilderAtF 56 5 B b p (Lib.byteCells l) w → Lib.BuilderAtF 56 5 B b p (Lib.byteCells l) w' := by
    rintro p ⟨h1, v, h2, h3, h4⟩
    have hlt := (Array.getElem?_eq_some_iff.1 h2).1
    refine ⟨h1, v, (hg.block b hlt (fun e => (hr b _ e.symm h2).2 rfl)).trans h2, ?_, h4⟩
    refine h3.kept hg ?_
    rcases hv : v.ownBlock with _ | k
    · exact .inl rfl
    · obtain ⟨c, fz, hc⟩ := Lib.ownsRowF_kind h3 k hv
      exact .inr (fun e => (hr k _ e.symm hc).1 c fz rfl)
  rcases h with h | h
  · exact .inl (go _ h)
  · exact .inr (go _ h)
theorem BF.q {B b : Nat} {l : List UInt8} {w w' : World} (h : BF B b l w) (hq : Q w w') : BF B b l w' :=
  h.grown (row := none) ⟨hq.os, hq.tape, hq.output, hq.size, fun k hk _ => Below.block hq k hk⟩ (fun _ _ e => by cases e)
theorem KeepL.of {ks : List Nat} {W wy wz : World} {c : Nat} (hq : Q W wy) (hk : Lib.OthersKept 5 (some c) wy wz) (hs : wy.heap.size ≤ wz.heap.size) (hlt : ∀ k ∈ ks, k < W.heap.size ∧ k ≠ c)
    (hnr : ∀ k ∈ ks, ∀ o, W.heap[k]? = some o → NotRow o) : KeepL ks W wz := by
  refine ⟨Nat.le_trans hq.size hs, fun k hk' => ?_⟩
  obtain ⟨h1, h2⟩ := hlt k hk'
  have e : W.heap[k]? = some W.heap[k] := Array.getElem?_eq_getElem h1
  rw [hk k _ (hq.block e) (by simpa using h2) (hnr k hk' _ e), e]
end Go.Proofs.Yteadblkkbbhpjaa
