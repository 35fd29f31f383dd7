/- Texts of this proof, laid into one: ShA, ShG, Cps, HsA, HsB, HsC. -/
import Derived.Test.YtmmoenbmgcplkaaGreatDoorMy03
import Derived.Outline
import Derived.Laws.Shifts
import Derived.Laws.Rows
import Derived.RegionTactic
import Derived.BigRegion
import Derived.Lib.BufferWrite
import Derived.StillTailTactics
import Derived.Deep.MidRow
set_option linter.unusedVariables false
namespace Go.Proofs.YtmmoenbmgcplkaaGreatDoor
open Go Go.RowKit
theorem rl_bits (s : Nat) (x : BitVec 32) (hs : s < 32) :
    bits .or .u32 (IntKind.u32.wrap ((x.toNat : Int) * 2 ^ s)) ((x.toNat : Int) / 2 ^ (32 - s)) = ((rl s x).toNat : Int) := by
  unfold rl
  rw [← or32]
  congr 1
  · rw [IntKind.wrap_u32, BitVec.toNat_shiftLeft, Nat.shiftLeft_eq, Int.natCast_emod, Int.natCast_mul, Int.natCast_pow]; rfl
  · rw [BitVec.toNat_ushiftRight, Nat.shiftRight_eq_div_pow, Int.natCast_ediv, Int.natCast_pow]; rfl
set_option maxHeartbeats 400000 in
theorem RotateLeft32_any (x : BitVec 32) (k : Int) (s : Nat) (w : World) (hs : s < 32) (h : bits .and .u64 (IntKind.u64.wrap k) 31 = (s : Int)) :
    Calls Tryz.prog 146 #[.int .u32 (x.toNat : Int), .int .i64 k] w fun e w' => e = .returned (.int .u32 ((rl s x).toNat : Int)) ∧ w = w' := by
  go_enter Tryz.func146, Tryz.ntmps146
  go_wp2_with fail
  go_ret
  refine ⟨ret_int ?_, rfl⟩
  rw [← rl_bits s x hs, IntKind.wrap_u32]
set_option maxHeartbeats 400000 in
theorem turn_any (x : BitVec 32) (k : Int) (s : Nat) (w : World) (h0 : 0 ≤ k) (h1 : k < 32) (hs : s < 32) (h : bits .and .u64 (IntKind.u64.wrap (-k)) 31 = (s : Int)) :
    Calls Tryz.prog 145 #[.int .u32 (x.toNat : Int), .int .i64 k] w fun e w' => e = .returned (.int .u32 ((rl s x).toNat : Int)) ∧ w = w' := by
  go_enter Tryz.func145, Tryz.ntmps145
  go_wp2_with fail
  refine (RotateLeft32_any x _ s _ hs h).mono ?_
  rintro e w1 ⟨rfl, rfl⟩
  go_wp2_with fail
  go_ret
  exact ⟨rfl, rfl⟩
def tr (k : Int) (x : B32) : B32 := rl (32 - k.toNat) x
theorem and31 : ∀ k : Nat, k < 32 → 0 < k → bits .and .u64 (IntKind.u64.wrap (-(k : Int))) 31 = ((32 - k : Nat) : Int) := by decide +kernel
theorem turnK (x : B32) (k : Int) (w : World) (h0 : 0 < k) (h1 : k < 32) : Calls Tryz.prog 145 #[.int .u32 (x.toNat : Int), .int .i64 k] w fun e w' => e = .returned (.int .u32 ((tr k x).toNat : Int)) ∧ w = w' := by
  refine turn_any x k (32 - k.toNat) w (by omega) h1 (by omega) ?_
  have := and31 k.toNat (by omega) (by omega)
  rw [show ((k.toNat : Nat) : Int) = k from by omega] at this
  exact this
theorem sr_val (n : Nat) (x : B32) : (x.toNat : Int) / 2 ^ n = ((sr n x).toNat : Int) := by
  unfold sr
  rw [BitVec.toNat_ushiftRight, Nat.shiftRight_eq_div_pow, Int.natCast_ediv, Int.natCast_pow]; rfl
theorem mixS_bits (x : B32) : bits .xor .u32 (bits .xor .u32 ((tr 7 x).toNat : Int) ((tr 18 x).toNat : Int)) ((x.toNat : Int) / 8) = ((mixS x).toNat : Int) := by
  rw [show (8 : Int) = 2 ^ 3 from by decide, sr_val, xor32, xor32]; rfl
theorem mixT_bits (x : B32) : bits .xor .u32 (bits .xor .u32 ((tr 17 x).toNat : Int) ((tr 19 x).toNat : Int)) ((x.toNat : Int) / 1024) = ((mixT x).toNat : Int) := by
  rw [show (1024 : Int) = 2 ^ 10 from by decide, sr_val, xor32, xor32]; rfl
theorem ad_val (x y : B32) : ((ad x y).toNat : Int) = ((x.toNat : Int) + (y.toNat : Int)) % 4294967296 := (add32 x y).symm
end Go.Proofs.YtmmoenbmgcplkaaGreatDoor
set_option linter.unusedVariables false
namespace Go.Proofs.YtmmoenbmgcplkaaGreatDoor
open Go Go.RowKit
def u32V (x : B32) : Value := .int .u32 (x.toNat : Int)
def St8.list (s : St8) : List B32 := [s.a, s.b, s.c, s.d, s.e, s.f, s.g, s.h]
def StAt (w : World) (B : Nat) (l : List B32) : Prop := ∀ i, i < l.length → w.cell? ⟨B, i, none⟩ = some (.int .u32 ((gW l i).toNat : Int)) ∧ w.frozen? ⟨B, i, none⟩ = false
def arrM (M : List B32) : Array Value := (M.map u32V).toArray
theorem arr_all (M : List B32) : (arrM M).all (·.oneCell') = true := by
  rw [Array.all_eq_true_iff_forall_mem]
  intro v hv
  have : v ∈ M.map u32V := by simpa [arrM] using hv
  obtain ⟨x, _, rfl⟩ := List.mem_map.1 this
  rfl
theorem arr_size (M : List B32) : (arrM M).size = M.length := by simp [arrM]
theorem info64 : (Tryz.prog.info? 125).map (·.size) = some 64 := by kernel_rfl
theorem build_const {P : Program} {ops : Array Oper} {rest : List Oper} {o : Oper} {a : Act} {w : World} {Q : Exit → Act → World → Prop} (hg : o.guard = none) (t : TypeId) (cps : List (Nat × Value)) (cs : Array Value)
    (dst : Option Tmp) (hd : o.dst = dst) (ho : o.op = .build t (cps.map fun p => (p.1, Operand.const p.2)).toArray) (hf : P.built t cps = some cs)
    (h : wpList P ops Q rest (a.put dst (.agg cs)) w) : wpList P ops Q (o :: rest) a w := by
  subst hd
  have e : ((cps.map fun p => (p.1, Operand.const p.2)).toArray.map fun (i, x) => (i, a.eval x)).toList = cps := by
    simp only [List.map_toArray, List.map_map]
    conv => rhs; rw [← List.map_id cps]
    rfl
  exact wpList_build hg t _ ho (by rw [e, hf]; rfl) (by rw [e, hf]; exact h)
def partsOf (M : List B32) : List (Nat × Value) := M.zipIdx.map fun p => (p.2, u32V p.1)
theorem k256_built : Tryz.prog.built 125 (partsOf k256) = some (arrM k256) := by kernel_rfl
def ArrAt (w : World) (g : Nat) (M : List B32) : Prop := w.heap[g]? = some (.cells (arrM M) 125 (0, 0)) ∧ M.length = 64
def BytAt (w : World) (g : Nat) (b : List UInt8) : Prop := w.heap[g]? = some (.cells (arrB b) 130 (0, 0)) ∧ b.length = 64
theorem ArrAt.lt {w : World} {g : Nat} {M : List B32} (h : ArrAt w g M) : g < w.heap.size := lt_of_heap h.1
theorem BytAt.lt {w : World} {g : Nat} {M : List UInt8} (h : BytAt w g M) : g < w.heap.size := lt_of_heap h.1
theorem ArrAt.cell {w : World} {g : Nat} {M : List B32} (h : ArrAt w g M) (i : Nat) (hi : i < 64) : w.cell? ⟨g, i, none⟩ = some (.int .u32 ((gW M i).toNat : Int)) := by
  have h2 := h.2
  unfold World.cell?
  rw [h.1]
  simp [arrM, u32V, gW, List.getD, h2, hi]
theorem BytAt.cell {w : World} {g : Nat} {M : List UInt8} (h : BytAt w g M) (i : Nat) (hi : i < 64) : w.cell? ⟨g, i, none⟩ = some (.int .u8 ((gB M i).toNat : Int)) := by
  have h2 := h.2
  unfold World.cell?
  rw [h.1]
  simp [arrB, u8V, gB, List.getD, h2, hi]
theorem ArrAt.frozen {w : World} {g : Nat} {M : List B32} (h : ArrAt w g M) (i : Nat) : w.frozen? ⟨g, i, none⟩ = false := frozen_of_row w g i _ _ h.1
theorem ArrAt.set {w : World} {g : Nat} {M : List B32} (h : ArrAt w g M) (i : Nat) (x : B32) : ArrAt (w.setCell ⟨g, i, none⟩ (.int .u32 (x.toNat : Int))) g (M.set i x) := by
  refine ⟨?_, by rw [List.length_set]; exact h.2⟩
  rw [heap_setCell_same w g i _ _ _ h.1]
  congr 2
  unfold arrM
  rw [← Array.toList_inj]
  simp [u32V, List.map_set]
theorem ArrAt.other {w : World} {g g' : Nat} {M : List B32} (h : ArrAt w g M) (hg : g ≠ g') (i : Nat) (v : Value) : ArrAt (w.setCell ⟨g', i, none⟩ v) g M :=
  ⟨by rw [heap_setCell_other w ⟨g', i, none⟩ g v hg]; exact h.1, h.2⟩
theorem BytAt.other {w : World} {g g' : Nat} {M : List UInt8} (h : BytAt w g M) (hg : g ≠ g') (i : Nat) (v : Value) : BytAt (w.setCell ⟨g', i, none⟩ v) g M :=
  ⟨by rw [heap_setCell_other w ⟨g', i, none⟩ g v hg]; exact h.1, h.2⟩
theorem ArrAt.alloc {w : World} {g : Nat} {M : List B32} (h : ArrAt w g M) (o : Obj) : ArrAt (w.alloc o) g M := ⟨(Below.heap_alloc w o g h.lt).trans h.1, h.2⟩
theorem BytAt.alloc {w : World} {g : Nat} {M : List UInt8} (h : BytAt w g M) (o : Obj) : BytAt (w.alloc o) g M := ⟨(Below.heap_alloc w o g h.lt).trans h.1, h.2⟩
theorem ArrAt.new (w : World) (M : List B32) (h : M.length = 64) : ArrAt (w.alloc (.cells (arrM M) 125)) w.heap.size M := ⟨heap_alloc_new w _, h⟩
theorem mix_start (w : World) (b : List UInt8) (hb : b.length = 64) (cs : Array Value) :
    ∃ w3, w3 = ((w.alloc (.cells (arrB b) 130)).alloc (.cells cs 125)).setRow (w.heap.size + 1) (arrM k256) ∧ w3.heap.size = w.heap.size + 2 ∧ BytAt w3 w.heap.size b ∧ ArrAt w3 (w.heap.size + 1) k256 ∧ Q w w3 := by
  refine ⟨_, rfl, by simp, ⟨?_, hb⟩, ⟨?_, rfl⟩, Q.setRow (((Q.refl w).alloc _).alloc _) (by omega) _⟩
  · simp only [World.setRow, Array.getElem?_modify]
    rw [if_neg (by omega)]
    exact heap_alloc2_old _ _ _
  · simp only [World.setRow, Array.getElem?_modify, if_true]
    rw [heap_alloc2_new]
    rfl
theorem len64 : Tryz.prog.arrayLen 130 = 64 := by kernel_rfl
theorem und64 : Tryz.prog.underlying 130 = some (.array (Tryz.prog.arrayLen 130) (Tryz.prog.elem 130)) := by kernel_rfl
theorem size8 (w : World) : (sizeOf (Tryz.prog.elem 130)).run Tryz.prog w = .ok 1 w := by
  have h : (Tryz.prog.info? (Tryz.prog.elem 130)).map (·.size) = some 1 := by kernel_rfl
  cases hq : Tryz.prog.info? (Tryz.prog.elem 130) with
  | none => rw [hq] at h; cases h
  | some i => rw [hq] at h; simp at h; simp [sizeOf, typeInfo, hq, h]
theorem slice64 (w : World) (g o n : Nat) (i : Int) (hi : i = (n : Int)) (hn : n < 64) :
    (Instr.sliceAt 130 (.pointer (some ⟨g, o, none⟩)) (some (.int .i64 i)) none none).run Tryz.prog w = .ok (.slice (some ⟨g, o + n, none⟩) (64 - n) (64 - n)) w := by
  subst hi
  rw [run_sliceAt_array_l w _ _ und64 .i64 (n : Int) (by omega) (by rw [len64]; omega), size8]
  simp only [Result.andThen_ok, slicedAt, len64, Int.toNat_natCast, Nat.mul_one]
  rw [if_neg (by omega), add_off]
theorem ArrAt.q {w w' : World} {g : Nat} {M : List B32} (h : ArrAt w g M) (hq : Q w w') : ArrAt w' g M := ⟨hq.block h.1, h.2⟩
theorem BytAt.q {w w' : World} {g : Nat} {M : List UInt8} (h : BytAt w g M) (hq : Q w w') : BytAt w' g M := ⟨hq.block h.1, h.2⟩
theorem StAt.lt {w : World} {B : Nat} {s : St8} (h : StAt w B s.list) : B < w.heap.size := lt_of_cell (h 0 (by simp [St8.list])).1
theorem StAt.q {w w' : World} {B : Nat} {s : St8} (h : StAt w B s.list) (hq : Q w w') : StAt w' B s.list :=
  fun i hi => ⟨hq.cell (h i hi).1, (frozen_q hq h.lt).trans (h i hi).2⟩
def V8At (w : World) (g : Nat) (s : St8) : Prop := w.heap[g]? = some (.cells (arrM s.list) 124 (0, 0))
theorem V8At.lt {w : World} {g : Nat} {s : St8} (h : V8At w g s) : g < w.heap.size := lt_of_heap h
theorem V8At.cell {w : World} {g : Nat} {s : St8} (h : V8At w g s) (i : Nat) (hi : i < 8) : w.cell? ⟨g, i, none⟩ = some (.int .u32 ((gW s.list i).toNat : Int)) := by
  unfold World.cell?
  rw [h]
  have e : (arrM s.list)[i]? = some (u32V (gW s.list i)) := by
    match i, hi with
    | 0, _ => rfl
    | 1, _ => rfl
    | 2, _ => rfl
    | 3, _ => rfl
    | 4, _ => rfl
    | 5, _ => rfl
    | 6, _ => rfl
    | 7, _ => rfl
  exact e
theorem info4 : (Tryz.prog.info? 123).map (·.size) = some 1 := by kernel_rfl
theorem copy_state (w : World) (sb cap : Nat) (s : St8) (hs : StAt w sb s.list) :
    ∃ w5, (Builtin.copy_ #[144, 144] 3 #[.slice (some ⟨w.heap.size, 0, none⟩) 8 8, .slice (some ⟨sb, 0, none⟩) 8 cap]).run Tryz.prog
      (w.alloc (.cells #[.int .u32 0, .int .u32 0, .int .u32 0, .int .u32 0, .int .u32 0, .int .u32 0, .int .u32 0, .int .u32 0] 124)) = .ok (goInt 8) w5 ∧
      w5.heap.size = w.heap.size + 1 ∧ V8At w5 w.heap.size s ∧ Q w w5 := by
  have hA : Q w (w.alloc (.cells #[.int .u32 0, .int .u32 0, .int .u32 0, .int .u32 0, .int .u32 0, .int .u32 0, .int .u32 0, .int .u32 0] 124)) := (Q.refl w).alloc _
  have h := run_copy_row (P := Tryz.prog) _ 144 144 3 123 w.heap.size 0 8 8 ⟨sb, 0, none⟩ 8 cap _ 124 (s.list.map u32V) Tryz.underlying144 info4 (heap_alloc_new w (.cells #[.int .u32 0, .int .u32 0, .int .u32 0, .int .u32 0, .int .u32 0, .int .u32 0, .int .u32 0, .int .u32 0] 124)) rfl
    (by
      intro j v hv
      have hj : j < s.list.length := by
        rcases Nat.lt_or_ge j s.list.length with h | h
        · exact h
        · rw [List.getElem?_eq_none (by simpa using h)] at hv; cases hv
      rw [add_off, Nat.zero_add]
      rw [hA.cell (hs j hj).1]
      rw [List.getElem?_map, List.getElem?_eq_getElem hj] at hv
      simp only [Option.map_some, Option.some.injEq] at hv
      rw [← hv]
      unfold u32V gW
      simp [List.getD, hj])
    (by simp [St8.list]) (by
      intro v hv
      obtain ⟨x, _, rfl⟩ := List.mem_map.1 hv
      rfl)
  refine ⟨_, h, by simp, ?_, Q.setRow hA (Nat.le_refl _) _⟩
  unfold V8At
  simp only [World.setRow, Array.getElem?_modify, if_true]
  rw [heap_alloc_new]
  rfl
theorem index8 (R : St8) (k : Nat) (h : k < 8) (w : World) : (Instr.index 124 (.agg #[.int .u32 (R.a.toNat : Int), .int .u32 (R.b.toNat : Int), .int .u32 (R.c.toNat : Int), .int .u32 (R.d.toNat : Int), .int .u32 (R.e.toNat : Int), .int .u32 (R.f.toNat : Int), .int .u32 (R.g.toNat : Int), .int .u32 (R.h.toNat : Int)]) (.int .i64 (k : Int))).run Tryz.prog w = .ok (.int .u32 ((gW R.list k).toNat : Int)) w := by
  obtain rfl | rfl | rfl | rfl | rfl | rfl | rfl | rfl : k = 0 ∨ k = 1 ∨ k = 2 ∨ k = 3 ∨ k = 4 ∨ k = 5 ∨ k = 6 ∨ k = 7 := by omega
  all_goals kernel_rfl
def addP (s t : List B32) : Nat → List B32
  | 0 => s
  | k + 1 => (addP s t k).set k (ad (gW s k) (gW t k))
theorem addP_length (s t : List B32) (k : Nat) : (addP s t k).length = s.length := by
  induction k with
  | zero => rfl
  | succ k ih => simp [addP, ih]
theorem addP_old (s t : List B32) (k i : Nat) (h : k ≤ i) : gW (addP s t k) i = gW s i := by
  induction k with
  | zero => rfl
  | succ k ih =>
    have : k ≠ i := by omega
    rw [← ih (by omega)]
    show ((addP s t k).set k (ad (gW s k) (gW t k))).getD i 0#32 = (addP s t k).getD i 0#32
    simp [List.getD, this]
theorem addP_all (s t : St8) : addP s.list t.list 8 = (add8 s t).list := rfl
theorem StAt.set {w : World} {g : Nat} {l : List B32} (h : StAt w g l) (i : Nat) (x : B32) (hi : i < l.length) : StAt (w.setCell ⟨g, i, none⟩ (.int .u32 (x.toNat : Int))) g (l.set i x) := by
  intro j hj
  rw [List.length_set] at hj
  obtain ⟨h1, h2⟩ := h j hj
  by_cases e : i = j
  · subst e
    obtain ⟨h3, h4⟩ := h i hi
    refine ⟨?_, ?_⟩
    · rw [World.cell?_setCell_same w _ _ h3]
      simp [gW, List.getD, hi]
    · rw [World.frozen?_setCell]; exact h4
  · refine ⟨?_, ?_⟩
    · rw [World.cell?_setCell_other w _ _ _ (by intro e2; cases e2; exact e rfl)]
      rw [h1]
      simp [gW, List.getD, e]
    · rw [World.frozen?_setCell]; exact h2
theorem round_a (w : List B32) (R : St8) (k : Nat) (KK WW : B32) (h1 : gW k256 k = KK) (h2 : gW w k = WW) :
    (((R.h.toNat : Int) + ((xo (xo (rl 26 R.e) (rl 21 R.e)) (rl 7 R.e)).toNat : Int) + ((xo (an R.e R.f) (an (no R.e) R.g)).toNat : Int) + (KK.toNat : Int) + (WW.toNat : Int)) % 4294967296 +
      (((xo (xo (rl 30 R.a) (rl 19 R.a)) (rl 10 R.a)).toNat : Int) + ((xo (xo (an R.a R.b) (an R.a R.c)) (an R.b R.c)).toNat : Int)) % 4294967296) % 4294967296 = ((round8 w R k).a.toNat : Int) := by
  unfold round8
  simp only
  rw [h1, h2, ad_val, ad_val, ad_val, ad_val, ad_val, ad_val]
  omega
theorem round_e (w : List B32) (R : St8) (k : Nat) (KK WW : B32) (h1 : gW k256 k = KK) (h2 : gW w k = WW) :
    ((R.d.toNat : Int) + ((R.h.toNat : Int) + ((xo (xo (rl 26 R.e) (rl 21 R.e)) (rl 7 R.e)).toNat : Int) + ((xo (an R.e R.f) (an (no R.e) R.g)).toNat : Int) + (KK.toNat : Int) + (WW.toNat : Int)) % 4294967296) % 4294967296 = ((round8 w R k).e.toNat : Int) := by
  unfold round8
  simp only
  rw [h1, h2, ad_val, ad_val, ad_val, ad_val, ad_val]
  omega
end Go.Proofs.YtmmoenbmgcplkaaGreatDoor
set_option linter.unusedVariables false
namespace Go.Proofs.YtmmoenbmgcplkaaGreatDoor
open Go Go.RowKit
theorem wpList_copy_str {P : Program} {ops : Array Oper} {rest : List Oper} {o : Oper} {a : Act} {w : World} {R : Exit → Act → World → Prop} (hgd : o.guard = none) (d x : Operand) (dT sT elem : TypeId)
    (hop : o.op = .call { callee := .builtin .copy, args := #[d, x], argTypes := #[dT, sT] }) (hu : P.underlying dT = some (.slice elem)) (hs : (P.info? elem).map (·.size) = some 1)
    (g off dLen dCap : Nat) (hd : a.eval d = .slice (some ⟨g, off, none⟩) dLen dCap) (s : List UInt8) (hx : a.eval x = .string ⟨s.toArray⟩) (cur : Array Value) (t : TypeId) (hg : w.heap[g]? = some (.cells cur t (0, 0)))
    (p : List UInt8) (hp : s.take dLen = p) (hfit : off + p.length ≤ cur.size)
    (h : wpList P ops R rest (a.put o.dst (goInt p.length)) (w.setRow g (cur.toList.take off ++ Lib.byteCells p ++ cur.toList.drop (off + p.length)).toArray)) : wpList P ops R (o :: rest) a w := by
  have hrun : (Builtin.copy_ #[dT, sT] o.type #[.slice (some ⟨g, off, none⟩) dLen dCap, .string ⟨s.toArray⟩]).run P w = .ok (goInt p.length) (w.setRow g (cur.toList.take off ++ Lib.byteCells p ++ cur.toList.drop (off + p.length)).toArray) := by
    have hst := run_storeCells_at P g off t (Lib.byteCells p) 0 cur w hg (by rw [Lib.byteCells_length]; simpa using hfit) (Lib.byteCells_one _)
    rw [Lib.byteCells_length] at hst
    simp only [Nat.add_zero] at hst
    have hsz : (ByteArray.mk s.toArray).size = s.length := rfl
    have hmin : Nat.min s.length dLen = p.length := by rw [← hp, List.length_take]; exact Nat.min_comm _ _
    have htk : List.take p.length (List.map (fun b : UInt8 => Value.int IntKind.u8 (b.toNat : Int)) s) = Lib.byteCells p := by
      rw [← hp, List.length_take, ← List.map_take]
      unfold Lib.byteCells
      congr 1
      rcases Nat.le_total dLen s.length with h | h
      · rw [Nat.min_eq_left h]
      · rw [Nat.min_eq_right h, List.take_length, List.take_of_length_le h]
    cases hq : P.info? elem with
    | none => simp [hq] at hs
    | some i =>
      simp [Builtin.copy_, run_underlying hu, Builtin.lenOf, Builtin.firstCells, sizeOf, typeInfo, hq, hsz, hmin]
      rw [htk, hst]
      simp [Result.andThen]
  refine wpList_plain hgd fun K hK => ?_
  have hfin := hK _ _ h
  generalize w.setRow g (cur.toList.take off ++ Lib.byteCells p ++ cur.toList.drop (off + p.length)).toArray = W at *
  unfold Oper.wp
  simp [execOp, hop, resolve, invoke, builtin, hd, hx, hrun, Result.andThen]
  exact hfin
end Go.Proofs.YtmmoenbmgcplkaaGreatDoor
set_option linter.unusedVariables false
namespace Go.Proofs.YtmmoenbmgcplkaaGreatDoor
open Go Go.RowKit
theorem GX.st {S : List Nat} {a b : World} (h : GX S a b) {g : Nat} {l : List B32} (hg : g ∉ S) (hs : StAt a g l) : StAt b g l := by
  intro i hi
  obtain ⟨h1, h2⟩ := hs i hi
  have e : b.heap[g]? = a.heap[g]? := h.block g (lt_of_cell h1) hg
  exact ⟨by rw [← h1]; exact World.cell?_of_block e, by rw [← h2]; exact World.frozen?_of_block e⟩
structure Alg where
  n : Nat
  fn : Nat
  hi : Bool
  start : List B32
  mix : List B32 → List UInt8 → List B32
  n0 : 0 < n
  n8 : n ≤ 8
  len0 : start.length = n
  len : ∀ s b, s.length = n → (mix s b).length = n
  enters : ∀ (args : Array Value) (w : World), (callFunc fn args).run Tryz.prog w = .ok (.enter fn args) w
  call : ∀ (sb cap : Nat) (s : List B32) (b : List UInt8) (w : World), s.length = n → b.length = 64 → StAt w sb s →
    Calls Tryz.prog fn #[.slice (some ⟨sb, 0, none⟩) n cap, .agg (arrB b)] w fun e w' => e = .returned (.tuple #[]) ∧ StAt w' sb (mix s b) ∧ w.grownBy w' (some sb)
def blocksA (A : Alg) (l : List UInt8) : Nat → List B32
  | 0 => A.start
  | n + 1 => A.mix (blocksA A l n) (sub l (64 * n) (64 * n + 64))
theorem blocksA_length (A : Alg) (l : List UInt8) (n : Nat) : (blocksA A l n).length = A.n := by
  induction n with
  | zero => exact A.len0
  | succ n ih => exact A.len _ _ ih
theorem sub_append (l m : List UInt8) (i j : Nat) (h : j ≤ l.length) : sub (l ++ m) i j = sub l i j := by
  unfold sub; rw [List.take_append_of_le_length h]
theorem blocksA_append (A : Alg) (l m : List UInt8) (n : Nat) (h : 64 * n ≤ l.length) : blocksA A (l ++ m) n = blocksA A l n := by
  induction n with
  | zero => rfl
  | succ n ih => rw [blocksA, blocksA, ih (by omega), sub_append _ _ _ _ (by omega)]
def hashL (A : Alg) (sb cap : Nat) (bl : List UInt8) (many : Nat) (size : Nat) : List Value :=
  .slice (some ⟨sb, 0, none⟩) A.n cap :: (bl.map u8V ++ [.int .i64 many, .int .u64 size, .func (.func A.fn) #[] #[], .bool A.hi])
def HashAt (w : World) (A : Alg) (hb sb cap : Nat) (bl : List UInt8) (many size : Nat) : Prop :=
  w.heap[hb]? = some (.cells (hashL A sb cap bl many size).toArray 148 (0, 0)) ∧ bl.length = 64
theorem HashAt.cell {w : World} {A : Alg} {hb sb cap : Nat} {bl : List UInt8} {many size : Nat} (h : HashAt w A hb sb cap bl many size) (i : Nat) : w.cell? ⟨hb, i, none⟩ = (hashL A sb cap bl many size)[i]? := by
  rw [cell_of_row _ _ _ _ _ _ h.1]; simp
theorem hash_at {bl : List UInt8} (h : bl.length = 64) (x : Value) (t : List Value) (i : Nat) : (x :: (bl.map u8V ++ t))[65 + i]? = t[i]? := by
  rw [show 65 + i = (64 + i) + 1 from by omega, List.getElem?_cons_succ, List.getElem?_append_right (by simp; omega)]
  simp [h]
theorem HashAt.c0 {w : World} {A : Alg} {hb sb cap : Nat} {bl : List UInt8} {many size : Nat} (h : HashAt w A hb sb cap bl many size) : w.cell? ⟨hb, 0, none⟩ = some (.slice (some ⟨sb, 0, none⟩) A.n cap) := h.cell 0
theorem HashAt.c65 {w : World} {A : Alg} {hb sb cap : Nat} {bl : List UInt8} {many size : Nat} (h : HashAt w A hb sb cap bl many size) : w.cell? ⟨hb, 65, none⟩ = some (.int .i64 many) := by
  rw [h.cell]; exact hash_at h.2 _ _ 0
theorem HashAt.c66 {w : World} {A : Alg} {hb sb cap : Nat} {bl : List UInt8} {many size : Nat} (h : HashAt w A hb sb cap bl many size) : w.cell? ⟨hb, 66, none⟩ = some (.int .u64 size) := by
  rw [h.cell]; exact hash_at h.2 _ _ 1
theorem HashAt.c67 {w : World} {A : Alg} {hb sb cap : Nat} {bl : List UInt8} {many size : Nat} (h : HashAt w A hb sb cap bl many size) : w.cell? ⟨hb, 67, none⟩ = some (.func (.func A.fn) #[] #[]) := by
  rw [h.cell]; exact hash_at h.2 _ _ 2
theorem HashAt.c68 {w : World} {A : Alg} {hb sb cap : Nat} {bl : List UInt8} {many size : Nat} (h : HashAt w A hb sb cap bl many size) : w.cell? ⟨hb, 68, none⟩ = some (.bool A.hi) := by
  rw [h.cell]; exact hash_at h.2 _ _ 3
theorem HashAt.frozen {w : World} {A : Alg} {hb sb cap : Nat} {bl : List UInt8} {many size : Nat} (h : HashAt w A hb sb cap bl many size) (i : Nat) : w.frozen? ⟨hb, i, none⟩ = false := frozen_of_row w hb i _ _ h.1
theorem HashAt.lt {w : World} {A : Alg} {hb sb cap : Nat} {bl : List UInt8} {many size : Nat} (h : HashAt w A hb sb cap bl many size) : hb < w.heap.size := lt_of_heap h.1
theorem hash_set {bl : List UInt8} (h : bl.length = 64) (x : Value) (t : List Value) (i : Nat) (v : Value) : (x :: (bl.map u8V ++ t)).set (65 + i) v = x :: (bl.map u8V ++ t.set i v) := by
  rw [show 65 + i = (64 + i) + 1 from by omega, List.set_cons_succ, List.set_append, if_neg (by simp; omega)]
  simp [h]
theorem HashAt.setMany {w : World} {A : Alg} {hb sb cap : Nat} {bl : List UInt8} {many size : Nat} (h : HashAt w A hb sb cap bl many size) (m : Nat) : HashAt (w.setCell ⟨hb, 65, none⟩ (.int .i64 m)) A hb sb cap bl m size := by
  refine ⟨?_, h.2⟩
  rw [heap_setCell_same w hb 65 _ _ _ h.1]
  congr 2
  rw [← Array.toList_inj]
  simp only [Array.toList_setIfInBounds]
  exact hash_set h.2 _ _ 0 _
theorem HashAt.setSize {w : World} {A : Alg} {hb sb cap : Nat} {bl : List UInt8} {many size : Nat} (h : HashAt w A hb sb cap bl many size) (m : Nat) : HashAt (w.setCell ⟨hb, 66, none⟩ (.int .u64 m)) A hb sb cap bl many m := by
  refine ⟨?_, h.2⟩
  rw [heap_setCell_same w hb 66 _ _ _ h.1]
  congr 2
  rw [← Array.toList_inj]
  simp only [Array.toList_setIfInBounds]
  exact hash_set h.2 _ _ 1 _
theorem HashAt.setBlock {w : World} {A : Alg} {hb sb cap : Nat} {bl : List UInt8} {many size : Nat} (h : HashAt w A hb sb cap bl many size) (m : Nat) (p : List UInt8) (hm : m + p.length ≤ 64) :
    HashAt (w.setRow hb ((hashL A sb cap bl many size).toArray.toList.take (1 + m) ++ Lib.byteCells p ++ (hashL A sb cap bl many size).toArray.toList.drop (1 + m + p.length)).toArray) A hb sb cap (bl.take m ++ p ++ bl.drop (m + p.length)) many size := by
  have hl := h.2
  refine ⟨?_, by simp; omega⟩
  simp only [World.setRow, Array.getElem?_modify, if_true, h.1, Option.map_some]
  congr 2
  rw [← Array.toList_inj]
  simp only [hashL]
  rw [show 1 + m = m + 1 from by omega, show m + 1 + p.length = (m + p.length) + 1 from by omega, List.take_succ_cons, List.drop_succ_cons]
  rw [List.take_append_of_le_length (by simp; omega), List.drop_append_of_le_length (by simp; omega)]
  simp [Lib.byteCells, u8V, List.map_take, List.map_drop]
theorem HashAt.x {w w' : World} {A : Alg} {hb sb cap : Nat} {bl : List UInt8} {many size : Nat} {S : List Nat} (h : HashAt w A hb sb cap bl many size) (hg : GX S w w') (hS : hb ∉ S) : HashAt w' A hb sb cap bl many size := ⟨hg.heap hS h.1, h.2⟩
structure ToldZ (w : World) (A : Alg) (hb sb cap : Nat) (t : List UInt8) (size : Nat) : Prop where
  hash : ∃ bl, HashAt w A hb sb cap bl (t.length % 64) size ∧ bl.take (t.length % 64) = t.drop (t.length / 64 * 64)
  st : StAt w sb (blocksA A t (t.length / 64))
  ne : sb ≠ hb
def ToldAt (w : World) (A : Alg) (hb sb cap : Nat) (t : List UInt8) : Prop := ToldZ w A hb sb cap t (t.length % 18446744073709551616)
theorem ToldZ.x {w w' : World} {A : Alg} {hb sb cap : Nat} {t : List UInt8} {size : Nat} {S : List Nat} (h : ToldZ w A hb sb cap t size) (hg : GX S w w') (h1 : hb ∉ S) (h2 : sb ∉ S) : ToldZ w' A hb sb cap t size := by
  obtain ⟨⟨bl, hh, hb'⟩, hs, hn⟩ := h
  exact ⟨⟨bl, hh.x hg h1, hb'⟩, hg.st h2 hs, hn⟩
theorem ToldAt.x {w w' : World} {A : Alg} {hb sb cap : Nat} {t : List UInt8} {S : List Nat} (h : ToldAt w A hb sb cap t) (hg : GX S w w') (h1 : hb ∉ S) (h2 : sb ∉ S) : ToldAt w' A hb sb cap t := ToldZ.x h hg h1 h2
theorem told_part (t q : List UInt8) (n : Nat) (hn : t.length % 64 + n < 64) (hq : n ≤ q.length) (bl : List UInt8) (hbl : bl.length = 64) (hb : bl.take (t.length % 64) = t.drop (t.length / 64 * 64)) :
    (t ++ q.take n).length % 64 = t.length % 64 + n ∧ (t ++ q.take n).length / 64 = t.length / 64 ∧
    (bl.take (t.length % 64) ++ q.take n ++ bl.drop (t.length % 64 + n)).take (t.length % 64 + n) = (t ++ q.take n).drop ((t ++ q.take n).length / 64 * 64) := by
  have h1 : (t ++ q.take n).length = t.length + n := by simp; omega
  have h2 : (t ++ q.take n).length / 64 = t.length / 64 := by rw [h1]; omega
  refine ⟨by rw [h1]; omega, h2, ?_⟩
  rw [h2, List.drop_append_of_le_length (by omega), ← hb]
  rw [List.take_append_of_le_length (by simp; omega)]
  rw [List.take_of_length_le (by simp; omega)]
theorem told_full (t q : List UInt8) (n : Nat) (hn : t.length % 64 + n = 64) (hq : n ≤ q.length) (bl : List UInt8) (hbl : bl.length = 64) (hb : bl.take (t.length % 64) = t.drop (t.length / 64 * 64)) :
    (t ++ q.take n).length % 64 = 0 ∧ (t ++ q.take n).length / 64 = t.length / 64 + 1 ∧
    sub (t ++ q.take n) (64 * (t.length / 64)) (64 * (t.length / 64) + 64) = bl.take (t.length % 64) ++ q.take n ++ bl.drop (t.length % 64 + n) := by
  have h1 : (t ++ q.take n).length = t.length + n := by simp; omega
  refine ⟨by rw [h1]; omega, by rw [h1]; omega, ?_⟩
  unfold sub
  rw [List.take_of_length_le (by rw [h1]; omega), List.drop_append_of_le_length (by omega), Nat.mul_comm, ← hb, hn, List.drop_of_length_le (l := bl) (by omega)]
  simp
theorem toldz_full {w : World} {A : Alg} {hb sb cap SZ : Nat} (t q : List UInt8) (n : Nat) (hn : t.length % 64 + n = 64) (hq : n ≤ q.length) (bl BK : List UInt8) (hbl : bl.length = 64) (hb' : bl.take (t.length % 64) = t.drop (t.length / 64 * 64))
    (hBK : bl.take (t.length % 64) ++ q.take n ++ bl.drop (t.length % 64 + n) = BK) (hH : HashAt w A hb sb cap BK 0 SZ) (hS : StAt w sb (A.mix (blocksA A t (t.length / 64)) BK)) (hne : sb ≠ hb) : ToldZ w A hb sb cap (t ++ q.take n) SZ := by
  obtain ⟨h1, h2, h3⟩ := told_full t q n hn hq bl hbl hb'
  refine ⟨⟨BK, by rw [h1]; exact hH, ?_⟩, ?_, hne⟩
  · rw [h1, h2, List.take_zero, List.drop_of_length_le (by omega)]
  · rw [h2, blocksA, h3, hBK, blocksA_append _ _ _ _ (by omega)]
    exact hS
theorem toldz_part {w : World} {A : Alg} {hb sb cap SZ : Nat} (t q : List UInt8) (n : Nat) (hn : t.length % 64 + n < 64) (hq : n ≤ q.length) (bl : List UInt8) (hbl : bl.length = 64) (hb' : bl.take (t.length % 64) = t.drop (t.length / 64 * 64))
    (hH : HashAt w A hb sb cap (bl.take (t.length % 64) ++ q.take n ++ bl.drop (t.length % 64 + n)) (t.length % 64 + n) SZ) (hS : StAt w sb (blocksA A t (t.length / 64))) (hne : sb ≠ hb) : ToldZ w A hb sb cap (t ++ q.take n) SZ := by
  obtain ⟨h1, h2, h3⟩ := told_part t q n hn hq bl hbl hb'
  refine ⟨⟨_, by rw [h1]; exact hH, by rw [h1]; exact h3⟩, ?_, hne⟩
  rw [h2, blocksA_append _ _ _ _ (by omega)]
  exact hS
theorem sub_all (l : List UInt8) (n : Nat) : sub l n l.length = l.drop n := by simp [sub]
end Go.Proofs.YtmmoenbmgcplkaaGreatDoor
set_option linter.unusedVariables false
namespace Go.Proofs.YtmmoenbmgcplkaaGreatDoor
open Go Go.RowKit
theorem info5 : (Tryz.prog.info? 5).map (·.size) = some 1 := by kernel_rfl
theorem wpStill_load_mid {P : Program} {ops : Array Oper} {rest : List Oper} {o : Oper} {a : Act} {w : World} {R : Act → Prop} (hgd : o.guard = none) (ty : TypeId) (x : Operand) (ho : o.op = .load ty x)
    (b off : Nat) (hx : a.eval x = .pointer (some ⟨b, off, none⟩)) (cs : List Value) (d : TypeDesc) (hc : w.rangeAt b off cs) (hu : P.underlying ty = some d) (hd : d.isRow = true) (hi : (P.info? ty).map (·.size) = some cs.length)
    (h : wpStill P ops w R rest (a.put o.dst (.agg cs.toArray))) : wpStill P ops w R (o :: rest) a := by
  refine wpStill_step fun K hK => ?_
  rw [if_pos (by simp [Region.wanted, hgd])]
  unfold Oper.still execOp
  rw [ho]
  simp only [hx, Sem.run_bind, Sem.run_pure, run_loadAt_mid w b off ty cs d hc hu hd hi, Result.andThen_ok]
  rw [Oper.stillUpon_value]
  exact hK _ h
theorem take_len (l : List UInt8) (k : Nat) : l.take k = l.take (l.take k).length := by
  rw [List.length_take]
  rcases Nat.le_total k l.length with h | h
  · rw [Nat.min_eq_left h]
  · rw [Nat.min_eq_right h, List.take_length, List.take_of_length_le h]
def lenV : Value → Nat
  | .string s => s.size
  | _ => 0
theorem IntWalk_u64 (n : Int) : IntKind.u64.wrap n = n % 18446744073709551616 := by simp [IntKind.wrap, IntKind.bits, IntKind.signed]
theorem u64_len (a b : Nat) : (((a % 18446744073709551616 : Nat) : Int) + (b : Int)) % 18446744073709551616 = (((a + b) % 18446744073709551616 : Nat) : Int) := by omega
set_option maxRecDepth 100000 in
set_option maxHeartbeats 4000000 in
theorem write_any (A : Alg) (hb sb cap : Nat) (t p : List UInt8) (w : World) (h : ToldAt w A hb sb cap t) (hp : p.length ≤ 9223372036854775807) :
    Calls Tryz.prog 63 #[.pointer (some ⟨hb, 0, none⟩), .string ⟨p.toArray⟩] w fun e w' => e = .returned (.tuple #[]) ∧ ToldAt w' A hb sb cap (t ++ p) ∧ GX [hb, sb] w w' := by
  obtain ⟨⟨bl, hH, hbl⟩, hS, hne⟩ := h
  have hc := hH.c66
  have hf := hH.frozen 66
  have hw0 : IntKind.u64.wrap (((t.length % 18446744073709551616 : Nat) : Int) + (p.length : Int)) = (((t ++ p).length % 18446744073709551616 : Nat) : Int) := by
    rw [IntWalk_u64, List.length_append]; exact u64_len _ _
  have hS0 := HashAt.setSize hH ((t ++ p).length % 18446744073709551616)
  have HH : Hid (ToldZ (w.setCell ⟨hb, 66, none⟩ (.int .u64 (((t ++ p).length % 18446744073709551616 : Nat) : Int))) A hb sb cap t ((t ++ p).length % 18446744073709551616)) :=
    Lib.hid ⟨⟨bl, hS0, hbl⟩, ((GX.refl [hb] w).set (by simp) _ _).st (by simpa using hne) hS, hne⟩
  have HG : Hid (GX [hb, sb] w (w.setCell ⟨hb, 66, none⟩ (.int .u64 (((t ++ p).length % 18446744073709551616 : Nat) : Int)))) := Lib.hid ((GX.refl _ w).set (by simp) _ _)
  have HP : Hid (ToldAt (w.setCell ⟨hb, 66, none⟩ (.int .u64 (((t ++ p).length % 18446744073709551616 : Nat) : Int))) A hb sb cap (t ++ p) = ToldZ (w.setCell ⟨hb, 66, none⟩ (.int .u64 (((t ++ p).length % 18446744073709551616 : Nat) : Int))) A hb sb cap (t ++ p) ((t ++ p).length % 18446744073709551616)) := Lib.hid rfl
  have HT : Hid (∀ w' : World, ToldZ w' A hb sb cap (t ++ p) ((t ++ p).length % 18446744073709551616) → ToldAt w' A hb sb cap (t ++ p)) := Lib.hid fun w' h => h
  clear hH hS hbl hS0 HP
  generalize t.length % 18446744073709551616 = sz at *
  generalize (t ++ p).length % 18446744073709551616 = SZ at *
  go_enter Tryz.func63, Tryz.ntmps63
  go_wp2_with fail
  clear hw0 hc hf
  go_loopw [1] (fun q wr => ∃ r ql : List UInt8, p = r ++ ql ∧ q = .string ⟨ql.toArray⟩ ∧ ToldZ wr A hb sb cap (t ++ r) SZ ∧ GX [hb, sb] w wr) (fun q _ => lenV q)
  case atStart => exact ⟨[], p, rfl, rfl, by simpa using HH.out, HG.out⟩
  case round =>
    obtain ⟨r, ql, hpr, rfl, hT, hG⟩ := hrel
    have hql : ql.length ≤ 9223372036854775807 := by have : p.length = r.length + ql.length := by rw [hpr, List.length_append]
                                                     omega
    have HPR := Lib.hid hpr
    have HGG := Lib.hid hG
    clear hpr hG HH HG
    by_cases h0 : 0 < ql.length
    · obtain ⟨⟨bk, hH, hbk⟩, hS, _⟩ := hT
      have hm : (t ++ r).length % 64 < 64 := by omega
      have hc := hH.c65
      have hf := hH.frozen 65
      have hd0 : decide (0 < ql.length) = true := by simpa using h0
      generalize hM : (t ++ r).length % 64 = m at *
      have HM := Lib.hid hM
      have hsl := fun w => slice64 w hb 1 m m rfl hm
      have HB := Lib.hid hbk
      have HS := Lib.hid hS
      have HH := Lib.hid hH
      clear hM hbk hS hH
      go_wp2_with fail
      go_still_tail 9, (by kernel_rfl)
      change wpList _ _ _ _ _ wr.drew
      have hH := HH.out
      have hl64 := hH.2
      have hsz : 1 + m + (ql.take (64 - m)).length ≤ (hashL A sb cap bk m SZ).toArray.size := by simp [hashL, hl64]; omega
      refine wpList_copy_str rfl (.tmp 25) (.tmp 26) 88 9 5 rfl Tryz.underlying88 info5 hb (1 + m) (64 - m) (64 - m) rfl ql rfl _ 148 hH.1 (ql.take (64 - m)) rfl hsz ?_
      have hN0 : 0 < (ql.take (64 - m)).length := by rw [List.length_take]; omega
      have hN1 : (ql.take (64 - m)).length ≤ 64 - m := by rw [List.length_take]; omega
      have hN2 : (ql.take (64 - m)).length ≤ ql.length := by rw [List.length_take]; omega
      obtain ⟨N, hN⟩ : ∃ N, N = (ql.take (64 - m)).length := ⟨_, rfl⟩
      have hpq : ql.take (64 - m) = ql.take N := by rw [hN]; exact take_len ql (64 - m)
      obtain ⟨W2, hW2, hH2, hG2⟩ : ∃ W2, W2 = wr.drew.setRow hb ((hashL A sb cap bk m SZ).toArray.toList.take (1 + m) ++ Lib.byteCells (ql.take (64 - m)) ++ (hashL A sb cap bk m SZ).toArray.toList.drop (1 + m + (ql.take (64 - m)).length)).toArray ∧ HashAt W2 A hb sb cap (bk.take m ++ ql.take N ++ bk.drop (m + N)) m SZ ∧ GX [hb] wr W2 := by
        refine ⟨_, rfl, ?_, ((GX.refl _ wr).drew).setRow (by simp) _⟩
        have := HashAt.setBlock (w := wr.drew) hH m (ql.take (64 - m)) (by omega)
        rw [← hN, hpq] at this
        rw [← hN, hpq]
        exact this
      rw [← hW2]
      clear hW2
      rw [← hN] at hN0 hN1 hN2 ⊢
      have hS2 := hG2.st (by simpa using hne) HS.out
      have hG3 := HGG.out.trans (hG2.mono (by simp))
      clear hc hf
      have hc := hH2.c65
      have hf := hH2.frozen 65
      have HN := Lib.hid hN
      have HPQ := Lib.hid hpq
      have HS2 := Lib.hid hS2
      have HG3 := Lib.hid hG3
      have HH2 := Lib.hid hH2
      have HL := Lib.hid hl64
      clear hN hpq hS2 hG3 hH2 hG2 HS HGG HH hH hsl hl64 hsz
      by_cases h64 : m + N = 64
      · have hb64 : ((m : Int) + (N : Int) == 64) = true := by simp; omega
        go_wp2_with fail
        obtain ⟨W3, hW3, hH3, hG4, hS3⟩ : ∃ W3, W3 = W2.setCell ⟨hb, 65, none⟩ (.int .i64 ((m : Int) + (N : Int))) ∧ HashAt W3 A hb sb cap (bk.take m ++ ql.take N ++ bk.drop (m + N)) (m + N) SZ ∧ GX [hb, sb] w W3 ∧ StAt W3 sb (blocksA A (t ++ r) ((t ++ r).length / 64)) := by
          refine ⟨_, rfl, ?_, (HG3.out).set (by simp) _ _, ((GX.refl [hb] W2).set (by simp) _ _).st (by simpa using hne) HS2.out⟩
          have := HashAt.setMany HH2.out (m + N)
          rw [Int.natCast_add] at this
          exact this
        rw [← hW3]
        clear hW3 hc hf hb64 HS2 HG3 HH2
        have hc0 := hH3.c0
        have hc67 := hH3.c67
        have hrg : W3.drew.rangeAt hb 1 ((bk.take m ++ ql.take N ++ bk.drop (m + N)).map u8V) := by
          intro j v hj
          have e := hH3.cell (1 + j)
          rw [show 1 + j = j + 1 from by omega, hashL, List.getElem?_cons_succ, List.getElem?_append_left (by exact (List.getElem?_eq_some_iff.1 hj).1), hj] at e
          rw [show 1 + j = j + 1 from by omega]
          exact e
        have hbl64 := hH3.2
        refine wp_region_still_tail 12 (by kernel_rfl) (by kernel_rfl) ?_
        simp only [List.take_succ_cons, List.take_zero, List.drop_succ_cons, List.drop_zero]
        have HH3 := Lib.hid hH3
        have HG4 := Lib.hid hG4
        have HS3 := Lib.hid hS3
        have HBK := Lib.hid (rfl : bk.take m ++ ql.take N ++ bk.drop (m + N) = bk.take m ++ ql.take N ++ bk.drop (m + N))
        clear hG4 hS3
        revert HBK
        generalize hBK : bk.take m ++ ql.take N ++ bk.drop (m + N) = BK at *
        intro _
        have HBK := Lib.hid hBK
        have HR := Lib.hid hrg
        clear hH3 hrg hBK
        iterate 11 still_step
        refine wpStill_load_mid rfl 130 (.tmp 54) rfl hb 1 rfl _ _ HR.out Tryz.underlying130 rfl (by rw [List.length_map, hbl64]; kernel_rfl) ?_
        refine wpStill_nil ?_
        change wpList _ _ _ _ _ W3.drew
        have hG5 := HG4.out.drew
        have hS5 : StAt W3.drew sb (blocksA A (t ++ r) ((t ++ r).length / 64)) := HS3.out
        have hH5 : HashAt W3.drew A hb sb cap BK (m + N) SZ := HH3.out
        generalize W3.drew = W5 at *
        have HG5 := Lib.hid hG5
        have HS5 := Lib.hid hS5
        have HH5 := Lib.hid hH5
        clear hG5 hS5 hH5 HH3 HG4 HS3 HR hc0 hc67
        have hent := A.enters
        go_wp2_with fail
        clear hent
        refine (A.call sb cap (blocksA A (t ++ r) ((t ++ r).length / 64)) BK _ (blocksA_length _ _ _) hbl64 HS5.out).mono ?_
        rintro e w6 ⟨rfl, hS6, hg6⟩
        have hG6 := HG5.out.trans (GX.gb hg6 (by simp))
        have hH6 := HH5.out.x (GX.gb (S := [sb]) hg6 (by simp)) (by simpa using Ne.symm hne)
        have hc := hH6.c65
        have hf := hH6.frozen 65
        have HG6 := Lib.hid hG6
        have HS6 := Lib.hid hS6
        have HH6 := Lib.hid hH6
        clear hG6 hS6 hH6 hg6 HG5 HS5 HH5 hbl64
        go_wp2_with fail
        go_roundw
        case rel =>
          refine ⟨r ++ ql.take N, ql.drop N, by rw [HPR.out]; simp, by rw [sub_all], ?_, HG6.out.set (by simp) _ _⟩
          rw [← List.append_assoc]
          have hm1 := HM.out
          exact toldz_full (t ++ r) ql N (by rw [hm1]; exact h64) hN2 bk BK HL.out (by rw [hm1]; exact HB.out) (by rw [hm1]; exact HBK.out) (HashAt.setMany HH6.out 0)
            (((GX.refl [hb] w6).set (by simp) _ _).st (by simpa using hne) HS6.out) hne
        case measure => show (sub ql N ql.length).length < ql.length; rw [length_sub]; omega
      · have hb64 : ((m : Int) + (N : Int) == 64) = false := by simp; omega
        go_wp2_with fail
        go_roundw
        case rel =>
          refine ⟨r ++ ql.take N, ql.drop N, by rw [HPR.out]; simp, by rw [sub_all], ?_, HG3.out.set (by simp) _ _⟩
          rw [← List.append_assoc]
          have hm1 := HM.out
          have hH9 := HashAt.setMany HH2.out (m + N)
          rw [Int.natCast_add] at hH9
          exact toldz_part (t ++ r) ql N (by rw [hm1]; omega) hN2 bk HL.out (by rw [hm1]; exact HB.out) (by rw [hm1]; exact hH9)
            (((GX.refl [hb] W2).set (by simp) _ _).st (by simpa using hne) HS2.out) hne
        case measure => show (sub ql N ql.length).length < ql.length; rw [length_sub]; omega
    · have hql0 : ql = [] := List.eq_nil_of_length_eq_zero (by omega)
      subst hql0
      have hd0 : decide (0 < ([] : List UInt8).length) = false := rfl
      have HTT := Lib.hid hT
      clear hT
      go_wp2_with fail
      go_end0
      refine ⟨rfl, HT.out _ ?_, HGG.out⟩
      have := HTT.out
      rw [HPR.out, List.append_nil]
      exact this
end Go.Proofs.YtmmoenbmgcplkaaGreatDoor
set_option linter.unusedVariables false
namespace Go.Proofs.YtmmoenbmgcplkaaGreatDoor
open Go Go.RowKit
def RowB (w : World) (g : Nat) (b : List UInt8) : Prop := w.heap[g]? = some (.cells (arrB b) 5 (0, 0))
theorem RowB.set {w : World} {g : Nat} {b : List UInt8} (h : RowB w g b) (i : Nat) (x : UInt8) : RowB (w.setCell ⟨g, i, none⟩ (.int .u8 (x.toNat : Int))) g (b.set i x) := by
  unfold RowB
  rw [heap_setCell_same w g i _ _ _ h]
  congr 2
  unfold arrB
  rw [← Array.toList_inj]
  simp [u8V, List.map_set]
theorem RowB.cell {w : World} {g : Nat} {b : List UInt8} (h : RowB w g b) (i : Nat) (hi : i < b.length) : w.cell? ⟨g, i, none⟩ = some (.int .u8 ((gB b i).toNat : Int)) := by
  rw [cell_of_row _ _ _ _ _ _ h]
  simp [arrB, u8V, gB, List.getD, hi]
theorem RowB.frozen {w : World} {g : Nat} {b : List UInt8} (h : RowB w g b) (i : Nat) : w.frozen? ⟨g, i, none⟩ = false := frozen_of_row w g i _ _ h
theorem RowB.q {w w' : World} {g : Nat} {b : List UInt8} (h : RowB w g b) (hq : Q w w') : RowB w' g b := hq.block h
theorem RowB.new (w : World) (b : List UInt8) : RowB (w.alloc (.cells (arrB b) 5)) w.heap.size b := heap_alloc_new w _
theorem made_bytes (n : Nat) : madeCells #[Value.int .u8 0] n = arrB (List.replicate n 0) := by
  unfold madeCells arrB
  rw [← Array.toList_inj]
  apply List.ext_getElem
  · simp
  · intro i h1 h2
    simp [u8V, Nat.mod_one]
theorem mkBytes (n : Nat) (w : World) (hn : n ≤ 140737488355328) : (Instr.makeSlice 88 (.int .i64 (n : Int)) (.int .i64 (n : Int))).run Tryz.prog w = .ok (.slice (some ⟨w.heap.size, 0, none⟩) n n) (w.alloc (.cells (arrB (List.replicate n 0)) 5)) := by
  have hI : (Tryz.prog.info? 5).map (fun i => (i.zero, i.size, i.bytes)) = some (some (.int .u8 0), 1, 1) := by kernel_rfl
  obtain ⟨i, hi, hz, hsz, hby⟩ := info_parts hI
  have h := run_make w 88 5 i _ Tryz.underlying88 hi hz .i64 .i64 (n : Int) (n : Int) (by omega) (by omega) (by rw [hby]; omega) (by omega)
  rw [h, hsz]
  simp only [Int.toNat_natCast, Nat.mul_one]
  rw [show (Value.int IntKind.u8 0).cells = #[Value.int .u8 0] from rfl, made_bytes]
theorem mapRange_set {α : Type} (m i : Nat) (f : Nat → α) (v : α) : ((List.range m).map f).set i v = (List.range m).map fun j => if j = i then v else f j := by
  apply List.ext_getElem
  · simp
  · intro j h1 h2
    simp only [List.getElem_set, List.getElem_map, List.getElem_range]
    by_cases e : i = j
    · rw [if_pos e, if_pos e.symm]
    · rw [if_neg e, if_neg (fun h => e h.symm)]
theorem conv_row (w : World) (g : Nat) (b : List UInt8) (cap : Nat) (h : RowB w g b) : (convert 88 9 (.slice (some ⟨g, 0, none⟩) b.length cap)).run Tryz.prog w = .ok (.string ⟨b.toArray⟩) w := by
  refine run_convert_bytes_back (P := Tryz.prog) w 88 9 5 ⟨g, 0, none⟩ cap b Tryz.underlying88 Tryz.underlying5 Tryz.underlying9 ?_
  intro i hi
  rw [add_off, Nat.zero_add, h.cell i hi]
  simp [gB, List.getD, hi]
def byN (n i : Nat) : UInt8 := byteOf ((n / 256 ^ i % 256 : Nat) : Int)
def bytesL (hi : Bool) (n many : Nat) : List UInt8 := if hi then (List.range many).map fun j => byN n (many - 1 - j) else (List.range many).map fun j => byN n j
theorem shr8 (n i : Nat) : (n : Int) / 2 ^ (8 * i) % 256 = ((byN n i).toNat : Int) := by
  unfold byN
  rw [byteOf_int _ (by omega) (by omega)]
  rw [show ((2 : Int) ^ (8 * i)) = ((256 ^ i : Nat) : Int) from by rw [show (256 : Nat) = 2 ^ 8 from rfl, ← Nat.pow_mul]; simp]
  omega
theorem map_zero (n : Nat) : (List.range n).map (fun _ => (0 : UInt8)) = List.replicate n 0 := by
  apply List.ext_getElem <;> simp
set_option maxRecDepth 100000 in
set_option maxHeartbeats 4000000 in
theorem bytes_lo (hb n many : Nat) (w : World) (hc : w.cell? ⟨hb, 68, none⟩ = some (.bool false)) (hn : n < 18446744073709551616) (hm : many ≤ 8) :
    Calls Tryz.prog 103 #[.pointer (some ⟨hb, 0, none⟩), .int .u64 (n : Int), .int .i64 (many : Int)] w fun e w' => e = .returned (.string ⟨(bytesL false n many).toArray⟩) ∧ Q w w' := by
  have hmk := fun w => mkBytes many w (by omega)
  go_enter Tryz.func103, Tryz.ntmps103
  go_wp2_with fail
  clear hmk
  have hlt0 : hb < w.heap.size := lt_of_cell hc
  have hc1 := ((Q.refl w).alloc (.cells (arrB (List.replicate many 0)) 5)).cell hc
  have hR0 := RowB.new w (List.replicate many 0)
  have HQ := Lib.hid ((Q.refl w).alloc (.cells (arrB (List.replicate many 0)) 5))
  generalize w.alloc (.cells (arrB (List.replicate many 0)) 5) = w1 at *
  have HR := Lib.hid hR0
  have HC := Lib.hid hc1
  clear hR0 hc1 hc
  go_loopw [14] (fun i wr => ∃ k : Nat, k ≤ many ∧ i = .int .i64 k ∧ RowB wr w.heap.size ((List.range many).map fun j => if j < k then byN n j else 0) ∧ Q w wr ∧ wr.cell? ⟨hb, 68, none⟩ = some (.bool false)) (fun i _ => many - (intOf i).toNat)
  case atStart => exact ⟨0, by omega, rfl, by simpa [map_zero] using HR.out, HQ.out, HC.out⟩
  case round =>
    obtain ⟨k, hk, rfl, hR, hq, hc⟩ := hrel
    by_cases hlt : k < many
    · have hd : decide (k < many) = true := by simpa using hlt
      have hcl := hR.cell k (by simpa using hlt)
      have hf := hR.frozen k
      have HRR := Lib.hid hR
      have HQQ := Lib.hid hq
      have HCC := Lib.hid hc
      clear hR hq HR HQ HC
      go_wp2_with fail
      go_roundw
      case rel =>
        refine ⟨k + 1, by omega, by go_num, ?_, Q.setNew HQQ.out (Nat.le_refl _) _, ?_⟩
        · have h1 := HRR.out.set k (byN n k)
          rw [mapRange_set] at h1
          rw [shr8]
          have e : (List.range many).map (fun j => if j < k + 1 then byN n j else 0) = (List.range many).map (fun j => if j = k then byN n k else if j < k then byN n j else 0) := by
            apply List.map_congr_left
            intro j _
            by_cases hj : j = k
            · rw [if_pos (by omega), if_pos hj, hj]
            · rw [if_neg hj]
              by_cases hj2 : j < k
              · rw [if_pos (by omega), if_pos hj2]
              · rw [if_neg (by omega), if_neg hj2]
          rw [e]
          exact h1
        · rw [World.cell?_setCell_other wr _ _ _ (by intro e; have := congrArg Addr.block e; simp only at this; omega)]
          exact HCC.out
      case measure => simp [intOf]; omega
    · obtain rfl : k = many := by omega
      have hd : decide (k < k) = false := by simp
      have e : (List.range k).map (fun j => if j < k then byN n j else 0) = bytesL false n k := by
        unfold bytesL
        rw [if_neg (by decide)]
        apply List.map_congr_left
        intro j hj
        rw [if_pos (List.mem_range.1 hj)]
      rw [e] at hR
      have hlen : (bytesL false n k).length = k := by unfold bytesL; simp
      have hcv := conv_row wr w.heap.size _ k hR
      rw [hlen] at hcv
      have HQQ := Lib.hid hq
      clear hR hq hc HR HQ HC hlen e
      go_wp2_with fail
      go_ret
      exact ⟨rfl, HQQ.out⟩
set_option maxRecDepth 100000 in
set_option maxHeartbeats 4000000 in
theorem bytes_hi (hb n many : Nat) (w : World) (hc : w.cell? ⟨hb, 68, none⟩ = some (.bool true)) (hn : n < 18446744073709551616) (hm : many ≤ 8) :
    Calls Tryz.prog 103 #[.pointer (some ⟨hb, 0, none⟩), .int .u64 (n : Int), .int .i64 (many : Int)] w fun e w' => e = .returned (.string ⟨(bytesL true n many).toArray⟩) ∧ Q w w' := by
  have hmk := fun w => mkBytes many w (by omega)
  go_enter Tryz.func103, Tryz.ntmps103
  go_wp2_with fail
  clear hmk
  have hlt0 : hb < w.heap.size := lt_of_cell hc
  have hc1 := ((Q.refl w).alloc (.cells (arrB (List.replicate many 0)) 5)).cell hc
  have hR0 := RowB.new w (List.replicate many 0)
  have HQ := Lib.hid ((Q.refl w).alloc (.cells (arrB (List.replicate many 0)) 5))
  generalize w.alloc (.cells (arrB (List.replicate many 0)) 5) = w1 at *
  have HR := Lib.hid hR0
  have HC := Lib.hid hc1
  clear hR0 hc1 hc
  go_loopw [14] (fun i wr => ∃ k : Nat, k ≤ many ∧ i = .int .i64 k ∧ RowB wr w.heap.size ((List.range many).map fun j => if many - k ≤ j then byN n (many - 1 - j) else 0) ∧ Q w wr ∧ wr.cell? ⟨hb, 68, none⟩ = some (.bool true)) (fun i _ => many - (intOf i).toNat)
  case atStart => exact ⟨0, by omega, rfl, by rw [show (List.range many).map (fun j => if many - 0 ≤ j then byN n (many - 1 - j) else 0) = List.replicate many 0 from by rw [← map_zero]; exact List.map_congr_left fun j hj => if_neg (by have := List.mem_range.1 hj; omega)]; exact HR.out, HQ.out, HC.out⟩
  case round =>
    obtain ⟨k, hk, rfl, hR, hq, hc⟩ := hrel
    by_cases hlt : k < many
    · have hd : decide (k < many) = true := by simpa using hlt
      have hcl := hR.cell (many - 1 - k) (by simp; omega)
      have hf := hR.frozen (many - 1 - k)
      have HRR := Lib.hid hR
      have HQQ := Lib.hid hq
      have HCC := Lib.hid hc
      clear hR hq HR HQ HC
      go_wp2_with fail
      go_roundw
      case rel =>
        refine ⟨k + 1, by omega, by go_num, ?_, Q.setNew HQQ.out (Nat.le_refl _) _, ?_⟩
        · have h1 := HRR.out.set (many - 1 - k) (byN n k)
          rw [mapRange_set] at h1
          rw [shr8]
          have e : (List.range many).map (fun j => if many - (k + 1) ≤ j then byN n (many - 1 - j) else 0) = (List.range many).map (fun j => if j = many - 1 - k then byN n k else if many - k ≤ j then byN n (many - 1 - j) else 0) := by
            apply List.map_congr_left
            intro j hj0
            have hjm := List.mem_range.1 hj0
            by_cases hj : j = many - 1 - k
            · rw [if_pos (by omega), if_pos hj, hj, show many - 1 - (many - 1 - k) = k from by omega]
            · rw [if_neg hj]
              by_cases hj2 : many - k ≤ j
              · rw [if_pos (by omega), if_pos hj2]
              · rw [if_neg (by omega), if_neg hj2]
          rw [e]
          exact h1
        · rw [World.cell?_setCell_other wr _ _ _ (by intro e; have := congrArg Addr.block e; simp only at this; omega)]
          exact HCC.out
      case measure => simp [intOf]; omega
    · obtain rfl : k = many := by omega
      have hd : decide (k < k) = false := by simp
      have e : (List.range k).map (fun j => if k - k ≤ j then byN n (k - 1 - j) else 0) = bytesL true n k := by
        unfold bytesL
        rw [if_pos rfl]
        apply List.map_congr_left
        intro j hj
        rw [if_pos (by omega)]
      rw [e] at hR
      have hlen : (bytesL true n k).length = k := by unfold bytesL; simp
      have hcv := conv_row wr w.heap.size _ k hR
      rw [hlen] at hcv
      have HQQ := Lib.hid hq
      clear hR hq hc HR HQ HC hlen e
      go_wp2_with fail
      go_ret
      exact ⟨rfl, HQQ.out⟩
theorem bytes_any (hi : Bool) (hb n many : Nat) (w : World) (hc : w.cell? ⟨hb, 68, none⟩ = some (.bool hi)) (hn : n < 18446744073709551616) (hm : many ≤ 8) :
    Calls Tryz.prog 103 #[.pointer (some ⟨hb, 0, none⟩), .int .u64 (n : Int), .int .i64 (many : Int)] w fun e w' => e = .returned (.string ⟨(bytesL hi n many).toArray⟩) ∧ Q w w' := by
  cases hi
  · exact bytes_lo hb n many w hc hn hm
  · exact bytes_hi hb n many w hc hn hm
theorem bytes8_any (hi : Bool) (hb n : Nat) (w : World) (hc : w.cell? ⟨hb, 68, none⟩ = some (.bool hi)) (hn : n < 18446744073709551616) :
    Calls Tryz.prog 103 #[.pointer (some ⟨hb, 0, none⟩), .int .u64 (n : Int), .int .i64 8] w fun e w' => e = .returned (.string ⟨(bytesL hi n 8).toArray⟩) ∧ Q w w' := bytes_any hi hb n 8 w hc hn (by decide)
theorem bytes4_any (hi : Bool) (hb n : Nat) (w : World) (hc : w.cell? ⟨hb, 68, none⟩ = some (.bool hi)) (hn : n < 18446744073709551616) :
    Calls Tryz.prog 103 #[.pointer (some ⟨hb, 0, none⟩), .int .u64 (n : Int), .int .i64 4] w fun e w' => e = .returned (.string ⟨(bytesL hi n 4).toArray⟩) ∧ Q w w' := bytes_any hi hb n 4 w hc hn (by decide)
end Go.Proofs.YtmmoenbmgcplkaaGreatDoor
