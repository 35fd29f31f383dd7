/- SHA-256: what lies in memory: blocks of numbers and bytes; worlds that write one block alone. -/
import Derived.Test.YteadblkkbbhpjaaShA
import Derived.Test.YteadblkkbbhpjaaGx
import Derived.Outline
import Derived.Laws.Rows
import Derived.RegionTactic
import Derived.BigRegion
set_option linter.unusedVariables false
namespace Go.Proofs.Yteadblkkbbhpjaa
open Go Go.RowKit
def u32V (x : B32) : Value := .int .u32 (x.toNat : Int)
def u8V (x : UInt8) : Value := .int .u8 (x.toNat : Int)
/-- Eight numbers in a block. -/
def St8.list (s : St8) : List B32 := [s.a, s.b, s.c, s.d, s.e, s.f, s.g, s.h]
def gV (l : List B32) (i : Nat) : Int := ((gW l i).toNat : Int)
def StAt (w : World) (B : Nat) (l : List B32) : Prop := ∀ i, i < l.length → w.cell? ⟨B, i, none⟩ = some (.int .u32 ((gW l i).toNat : Int)) ∧ w.frozen? ⟨B, i, none⟩ = false
def arrM (M : List B32) : Array Value := (M.map u32V).toArray
def arrB (b : List UInt8) : Array Value := (b.map u8V).toArray
theorem arr_all (M : List B32) : (arrM M).all (·.oneCell') = true := by
  rw [Array.all_eq_true_iff_forall_mem]
  intro v hv
  have : v ∈ M.map u32V := by simpa [arrM] using hv
  obtain ⟨x, _, rfl⟩ := List.mem_map.1 this
  rfl
theorem arr_size (M : List B32) : (arrM M).size = M.length := by simp [arrM]
theorem info64 : (Try.prog.info? 83).map (·.size) = some 64 := by kernel_rfl
theorem build_const {P : Program} {ops : Array Oper} {rest : List Oper} {o : Oper} {a : Act} {w : World} {Q : Exit → Act → World → Prop} (hg : o.guard = none) (t : TypeId) (cps : List (Nat × Value)) (cs : Array Value)
    (dst : Option Tmp) (hd : o.dst = dst) (ho : o.op = .build t (cps.map fun p => (p.1, Operand.const p.2)).toArray) (hf : P.built t cps = some cs)
    (h : wpList P ops Q rest (a.put dst (.agg cs)) w) : wpList P ops Q (o :: rest) a w := by
  subst hd
  have e : ((cps.map fun p => (p.1, Operand.const p.2)).toArray.map fun (i, x) => (i, a.eval x)).toList = cps := by
    simp only [List.map_toArray, List.map_map]
    conv => rhs; rw [← List.map_id cps]
    rfl
  exact wpList_build hg t _ ho (by rw [e, hf]; rfl) (by rw [e, hf]; exact h)
/-- A table of constants, as the parts of a literal. -/
def partsOf (M : List B32) : List (Nat × Value) := M.zipIdx.map fun p => (p.2, u32V p.1)
theorem k256_built : Try.prog.built 83 (partsOf k256) = some (arrM k256) := by kernel_rfl
/-- 64 numbers (bytes) in a block of their own. -/
def ArrAt (w : World) (g : Nat) (M : List B32) : Prop := w.heap[g]? = some (.cells (arrM M) 83 (0, 0)) ∧ M.length = 64
def BytAt (w : World) (g : Nat) (b : List UInt8) : Prop := w.heap[g]? = some (.cells (arrB b) 77 (0, 0)) ∧ b.length = 64
theorem ArrAt.lt {w : World} {g : Nat} {M : List B32} (h : ArrAt w g M) : g < w.heap.size := lt_of_heap h.1
theorem BytAt.lt {w : World} {g : Nat} {M : List UInt8} (h : BytAt w g M) : g < w.heap.size := lt_of_heap h.1
theorem ArrAt.cell {w : World} {g : Nat} {M : List B32} (h : ArrAt w g M) (i : Nat) (hi : i < 64) : w.cell? ⟨g, i, none⟩ = some (.int .u32 ((gW M i).toNat : Int)) := by
  have h2 := h.2
  unfold World.cell?
  rw [h.1]
  simp [arrM, u32V, gW, List.getD, h2, hi]
theorem BytAt.cell {w : World} {g : Nat} {M : List UInt8} (h : BytAt w g M) (i : Nat) (hi : i < 64) : w.cell? ⟨g, i, none⟩ = some (.int .u8 ((gB M i).toNat : Int)) := by
  have h2 := h.2
  unfold World.cell?
  rw [h.1]
  simp [arrB, u8V, gB, List.getD, h2, hi]
theorem ArrAt.frozen {w : World} {g : Nat} {M : List B32} (h : ArrAt w g M) (i : Nat) : w.frozen? ⟨g, i, none⟩ = false := frozen_of_row w g i _ _ h.1
theorem ArrAt.set {w : World} {g : Nat} {M : List B32} (h : ArrAt w g M) (i : Nat) (x : B32) : ArrAt (w.setCell ⟨g, i, none⟩ (.int .u32 (x.toNat : Int))) g (M.set i x) := by
  refine ⟨?_, by rw [List.length_set]; exact h.2⟩
  rw [heap_setCell_same w g i _ _ _ h.1]
  congr 2
  unfold arrM
  rw [← Array.toList_inj]
  simp [u32V, List.map_set]
theorem ArrAt.other {w : World} {g g' : Nat} {M : List B32} (h : ArrAt w g M) (hg : g ≠ g') (i : Nat) (v : Value) : ArrAt (w.setCell ⟨g', i, none⟩ v) g M :=
  ⟨by rw [heap_setCell_other w ⟨g', i, none⟩ g v hg]; exact h.1, h.2⟩
theorem BytAt.other {w : World} {g g' : Nat} {M : List UInt8} (h : BytAt w g M) (hg : g ≠ g') (i : Nat) (v : Value) : BytAt (w.setCell ⟨g', i, none⟩ v) g M :=
  ⟨by rw [heap_setCell_other w ⟨g', i, none⟩ g v hg]; exact h.1, h.2⟩
theorem ArrAt.alloc {w : World} {g : Nat} {M : List B32} (h : ArrAt w g M) (o : Obj) : ArrAt (w.alloc o) g M := ⟨(Below.heap_alloc w o g h.lt).trans h.1, h.2⟩
theorem BytAt.alloc {w : World} {g : Nat} {M : List UInt8} (h : BytAt w g M) (o : Obj) : BytAt (w.alloc o) g M := ⟨(Below.heap_alloc w o g h.lt).trans h.1, h.2⟩
theorem ArrAt.new (w : World) (M : List B32) (h : M.length = 64) : ArrAt (w.alloc (.cells (arrM M) 83)) w.heap.size M := ⟨heap_alloc_new w _, h⟩
/-- The worlds behind the first steps. -/
theorem mix_start (w : World) (b : List UInt8) (hb : b.length = 64) (cs : Array Value) :
    ∃ w3, w3 = ((w.alloc (.cells (arrB b) 77)).alloc (.cells cs 83)).setRow (w.heap.size + 1) (arrM k256) ∧ w3.heap.size = w.heap.size + 2 ∧ BytAt w3 w.heap.size b ∧ ArrAt w3 (w.heap.size + 1) k256 ∧ Q w w3 := by
  refine ⟨_, rfl, by simp, ⟨?_, hb⟩, ⟨?_, rfl⟩, Q.setRow (((Q.refl w).alloc _).alloc _) (by omega) _⟩
  · simp only [World.setRow, Array.getElem?_modify]
    rw [if_neg (by omega)]
    exact heap_alloc2_old _ _ _
  · simp only [World.setRow, Array.getElem?_modify, if_true]
    rw [heap_alloc2_new]
    rfl
theorem len64 : Try.prog.arrayLen 77 = 64 := by kernel_rfl
theorem und64 : Try.prog.underlying 77 = some (.array (Try.prog.arrayLen 77) (Try.prog.elem 77)) := by kernel_rfl
theorem size8 (w : World) : (sizeOf (Try.prog.elem 77)).run Try.prog w = .ok 1 w := by
  have h : (Try.prog.info? (Try.prog.elem 77)).map (·.size) = some 1 := by kernel_rfl
  cases hq : Try.prog.info? (Try.prog.elem 77) with
  | none => rw [hq] at h; cases h
  | some i => rw [hq] at h; simp at h; simp [sizeOf, typeInfo, hq, h]
theorem slice64 (w : World) (g o n : Nat) (i : Int) (hi : i = (n : Int)) (hn : n < 64) :
    (Instr.sliceAt 77 (.pointer (some ⟨g, o, none⟩)) (some (.int .i64 i)) none none).run Try.prog w = .ok (.slice (some ⟨g, o + n, none⟩) (64 - n) (64 - n)) w := by
  subst hi
  rw [run_sliceAt_array_l w _ _ und64 .i64 (n : Int) (by omega) (by rw [len64]; omega), size8]
  simp only [Result.andThen_ok, slicedAt, len64, Int.toNat_natCast, Nat.mul_one]
  rw [if_neg (by omega), add_off]
theorem ArrAt.q {w w' : World} {g : Nat} {M : List B32} (h : ArrAt w g M) (hq : Q w w') : ArrAt w' g M := ⟨hq.block h.1, h.2⟩
theorem BytAt.q {w w' : World} {g : Nat} {M : List UInt8} (h : BytAt w g M) (hq : Q w w') : BytAt w' g M := ⟨hq.block h.1, h.2⟩
theorem frozen_q {w w' : World} {a : Addr} (hq : Q w w') (h : a.block < w.heap.size) : w'.frozen? a = w.frozen? a := by
  have e : w'.heap[a.block]? = w.heap[a.block]? := Below.block hq a.block h
  unfold World.frozen?
  rw [e]
theorem StAt.lt {w : World} {B : Nat} {s : St8} (h : StAt w B s.list) : B < w.heap.size := lt_of_cell (h 0 (by simp [St8.list])).1
theorem StAt.q {w w' : World} {B : Nat} {s : St8} (h : StAt w B s.list) (hq : Q w w') : StAt w' B s.list :=
  fun i hi => ⟨hq.cell (h i hi).1, (frozen_q hq h.lt).trans (h i hi).2⟩
/-- Eight numbers in a block of their own. -/
def V8At (w : World) (g : Nat) (s : St8) : Prop := w.heap[g]? = some (.cells (arrM s.list) 82 (0, 0))
theorem V8At.lt {w : World} {g : Nat} {s : St8} (h : V8At w g s) : g < w.heap.size := lt_of_heap h
theorem V8At.cell {w : World} {g : Nat} {s : St8} (h : V8At w g s) (i : Nat) (hi : i < 8) : w.cell? ⟨g, i, none⟩ = some (.int .u32 ((gW s.list i).toNat : Int)) := by
  unfold World.cell?
  rw [h]
  have e : (arrM s.list)[i]? = some (u32V (gW s.list i)) := by
    match i, hi with
    | 0, _ => rfl
    | 1, _ => rfl
    | 2, _ => rfl
    | 3, _ => rfl
    | 4, _ => rfl
    | 5, _ => rfl
    | 6, _ => rfl
    | 7, _ => rfl
  exact e
theorem info4 : (Try.prog.info? 81).map (·.size) = some 1 := by kernel_rfl
theorem copy_state (w : World) (sb cap : Nat) (s : St8) (hs : StAt w sb s.list) :
    ∃ w5, (Builtin.copy_ #[103, 103] 3 #[.slice (some ⟨w.heap.size, 0, none⟩) 8 8, .slice (some ⟨sb, 0, none⟩) 8 cap]).run Try.prog
      (w.alloc (.cells #[.int .u32 0, .int .u32 0, .int .u32 0, .int .u32 0, .int .u32 0, .int .u32 0, .int .u32 0, .int .u32 0] 82)) = .ok (goInt 8) w5 ∧
      w5.heap.size = w.heap.size + 1 ∧ V8At w5 w.heap.size s ∧ Q w w5 := by
  have hA : Q w (w.alloc (.cells #[.int .u32 0, .int .u32 0, .int .u32 0, .int .u32 0, .int .u32 0, .int .u32 0, .int .u32 0, .int .u32 0] 82)) := (Q.refl w).alloc _
  have h := run_copy_row (P := Try.prog) _ 103 103 3 81 w.heap.size 0 8 8 ⟨sb, 0, none⟩ 8 cap _ 82 (s.list.map u32V) Try.underlying103 info4 (heap_alloc_new w (.cells #[.int .u32 0, .int .u32 0, .int .u32 0, .int .u32 0, .int .u32 0, .int .u32 0, .int .u32 0, .int .u32 0] 82)) rfl
    (by
      intro j v hv
      have hj : j < s.list.length := by
        rcases Nat.lt_or_ge j s.list.length with h | h
        · exact h
        · rw [List.getElem?_eq_none (by simpa using h)] at hv; cases hv
      rw [add_off, Nat.zero_add]
      rw [hA.cell (hs j hj).1]
      rw [List.getElem?_map, List.getElem?_eq_getElem hj] at hv
      simp only [Option.map_some, Option.some.injEq] at hv
      rw [← hv]
      unfold u32V gW
      simp [List.getD, hj])
    (by simp [St8.list]) (by
      intro v hv
      obtain ⟨x, _, rfl⟩ := List.mem_map.1 hv
      rfl)
  refine ⟨_, h, by simp, ?_, Q.setRow hA (Nat.le_refl _) _⟩
  unfold V8At
  simp only [World.setRow, Array.getElem?_modify, if_true]
  rw [heap_alloc_new]
  rfl
theorem Q.gb {w w' : World} (h : Q w w') (row : Option Nat) : w.grownBy w' row := ⟨h.os, h.tape, h.output, h.size, fun k hk _ => Below.block h k hk⟩
theorem gb_trans {a b c : World} {row : Option Nat} (h : a.grownBy b row) (k : b.grownBy c row) : a.grownBy c row :=
  ⟨k.os.trans h.os, k.tape.trans h.tape, k.output.trans h.output, Nat.le_trans h.size k.size, fun i hi hr => (k.block i (Nat.lt_of_lt_of_le hi h.size) hr).trans (h.block i hi hr)⟩
theorem gb_set {a b : World} {g : Nat} (h : a.grownBy b (some g)) (i : Nat) (v : Value) : a.grownBy (b.setCell ⟨g, i, none⟩ v) (some g) :=
  ⟨h.os, h.tape, h.output, by simpa using h.size, fun k hk hr => by
    rw [heap_setCell_other b ⟨g, i, none⟩ k v (by intro e; exact hr (by rw [e]))]; exact h.block k hk hr⟩
theorem gb_drew {a b : World} {row : Option Nat} (h : a.grownBy b row) : a.grownBy b.drew row := ⟨h.os, h.tape, h.output, h.size, h.block⟩
theorem index8 (R : St8) (k : Nat) (h : k < 8) (w : World) : (Instr.index 82 (.agg #[.int .u32 (R.a.toNat : Int), .int .u32 (R.b.toNat : Int), .int .u32 (R.c.toNat : Int), .int .u32 (R.d.toNat : Int), .int .u32 (R.e.toNat : Int), .int .u32 (R.f.toNat : Int), .int .u32 (R.g.toNat : Int), .int .u32 (R.h.toNat : Int)]) (.int .i64 (k : Int))).run Try.prog w = .ok (.int .u32 ((gW R.list k).toNat : Int)) w := by
  obtain rfl | rfl | rfl | rfl | rfl | rfl | rfl | rfl : k = 0 ∨ k = 1 ∨ k = 2 ∨ k = 3 ∨ k = 4 ∨ k = 5 ∨ k = 6 ∨ k = 7 := by omega
  all_goals kernel_rfl
/-- The first k sums made. -/
def addP (s t : List B32) : Nat → List B32
  | 0 => s
  | k + 1 => (addP s t k).set k (ad (gW s k) (gW t k))
theorem addP_length (s t : List B32) (k : Nat) : (addP s t k).length = s.length := by
  induction k with
  | zero => rfl
  | succ k ih => simp [addP, ih]
theorem addP_old (s t : List B32) (k i : Nat) (h : k ≤ i) : gW (addP s t k) i = gW s i := by
  induction k with
  | zero => rfl
  | succ k ih =>
    have : k ≠ i := by omega
    rw [← ih (by omega)]
    show ((addP s t k).set k (ad (gW s k) (gW t k))).getD i 0#32 = (addP s t k).getD i 0#32
    simp [List.getD, this]
theorem addP_all (s t : St8) : addP s.list t.list 8 = (add8 s t).list := rfl
theorem StAt.set {w : World} {g : Nat} {l : List B32} (h : StAt w g l) (i : Nat) (x : B32) (hi : i < l.length) : StAt (w.setCell ⟨g, i, none⟩ (.int .u32 (x.toNat : Int))) g (l.set i x) := by
  intro j hj
  rw [List.length_set] at hj
  obtain ⟨h1, h2⟩ := h j hj
  by_cases e : i = j
  · subst e
    obtain ⟨h3, h4⟩ := h i hi
    refine ⟨?_, ?_⟩
    · rw [World.cell?_setCell_same w _ _ h3]
      simp [gW, List.getD, hi]
    · rw [World.frozen?_setCell]; exact h4
  · refine ⟨?_, ?_⟩
    · rw [World.cell?_setCell_other w _ _ _ (by intro e2; cases e2; exact e rfl)]
      rw [h1]
      simp [gW, List.getD, e]
    · rw [World.frozen?_setCell]; exact h2
theorem round_a (w : List B32) (R : St8) (k : Nat) (KK WW : B32) (h1 : gW k256 k = KK) (h2 : gW w k = WW) :
    (((R.h.toNat : Int) + ((xo (xo (rl 26 R.e) (rl 21 R.e)) (rl 7 R.e)).toNat : Int) + ((xo (an R.e R.f) (an (no R.e) R.g)).toNat : Int) + (KK.toNat : Int) + (WW.toNat : Int)) % 4294967296 +
      (((xo (xo (rl 30 R.a) (rl 19 R.a)) (rl 10 R.a)).toNat : Int) + ((xo (xo (an R.a R.b) (an R.a R.c)) (an R.b R.c)).toNat : Int)) % 4294967296) % 4294967296 = ((round8 w R k).a.toNat : Int) := by
  unfold round8
  simp only
  rw [h1, h2, ad_val, ad_val, ad_val, ad_val, ad_val, ad_val]
  omega
theorem round_e (w : List B32) (R : St8) (k : Nat) (KK WW : B32) (h1 : gW k256 k = KK) (h2 : gW w k = WW) :
    ((R.d.toNat : Int) + ((R.h.toNat : Int) + ((xo (xo (rl 26 R.e) (rl 21 R.e)) (rl 7 R.e)).toNat : Int) + ((xo (an R.e R.f) (an (no R.e) R.g)).toNat : Int) + (KK.toNat : Int) + (WW.toNat : Int)) % 4294967296) % 4294967296 = ((round8 w R k).e.toNat : Int) := by
  unfold round8
  simp only
  rw [h1, h2, ad_val, ad_val, ad_val, ad_val, ad_val]
  omega
end Go.Proofs.Yteadblkkbbhpjaa
