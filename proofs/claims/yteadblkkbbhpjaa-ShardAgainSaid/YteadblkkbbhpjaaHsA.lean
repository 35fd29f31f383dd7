/- A sum that is being reckoned: what its struct holds; what was told. -/
import Derived.Test.YteadblkkbbhpjaaShG
import Derived.Lib.BufferWrite
set_option linter.unusedVariables false
namespace Go.Proofs.Yteadblkkbbhpjaa
open Go Go.RowKit

theorem GX.st {S : List Nat} {a b : World} (h : GX S a b) {g : Nat} {l : List B32} (hg : g ∉ S) (hs : StAt a g l) : StAt b g l := by
  intro i hi
  obtain ⟨h1, h2⟩ := hs i hi
  have e : b.heap[g]? = a.heap[g]? := h.block g (lt_of_cell h1) hg
  exact ⟨by rw [← h1]; exact World.cell?_of_block e, by rw [← h2]; exact World.frozen?_of_block e⟩

/-- One way to reckon a sum: how many words, which function reckons a block, what it reckons. -/
structure Alg where
  n : Nat
  fn : Nat
  hi : Bool
  start : List B32
  mix : List B32 → List UInt8 → List B32
  n0 : 0 < n
  n8 : n ≤ 8
  len0 : start.length = n
  len : ∀ s b, s.length = n → (mix s b).length = n
  enters : ∀ (args : Array Value) (w : World), (callFunc fn args).run Try.prog w = .ok (.enter fn args) w
  call : ∀ (sb cap : Nat) (s : List B32) (b : List UInt8) (w : World), s.length = n → b.length = 64 → StAt w sb s →
    Calls Try.prog fn #[.slice (some ⟨sb, 0, none⟩) n cap, .agg (arrB b)] w fun e w' => e = .returned (.tuple #[]) ∧ StAt w' sb (mix s b) ∧ w.grownBy w' (some sb)
def blocksA (A : Alg) (l : List UInt8) : Nat → List B32
  | 0 => A.start
  | n + 1 => A.mix (blocksA A l n) (sub l (64 * n) (64 * n + 64))
theorem blocksA_length (A : Alg) (l : List UInt8) (n : Nat) : (blocksA A l n).length = A.n := by
  induction n with
  | zero => exact A.len0
  | succ n ih => exact A.len _ _ ih
theorem sub_append (l m : List UInt8) (i j : Nat) (h : j ≤ l.length) : sub (l ++ m) i j = sub l i j := by
  unfold sub; rw [List.take_append_of_le_length h]
theorem blocksA_append (A : Alg) (l m : List UInt8) (n : Nat) (h : 64 * n ≤ l.length) : blocksA A (l ++ m) n = blocksA A l n := by
  induction n with
  | zero => rfl
  | succ n ih => rw [blocksA, blocksA, ih (by omega), sub_append _ _ _ _ (by omega)]

/-- What the struct's cells hold. -/
def hashL (A : Alg) (sb cap : Nat) (bl : List UInt8) (many : Nat) (size : Nat) : List Value :=
  .slice (some ⟨sb, 0, none⟩) A.n cap :: (bl.map u8V ++ [.int .i64 many, .int .u64 size, .func (.func A.fn) #[] #[], .bool A.hi])
def HashAt (w : World) (A : Alg) (hb sb cap : Nat) (bl : List UInt8) (many size : Nat) : Prop :=
  w.heap[hb]? = some (.cells (hashL A sb cap bl many size).toArray 107 (0, 0)) ∧ bl.length = 64
theorem HashAt.cell {w : World} {A : Alg} {hb sb cap : Nat} {bl : List UInt8} {many size : Nat} (h : HashAt w A hb sb cap bl many size) (i : Nat) : w.cell? ⟨hb, i, none⟩ = (hashL A sb cap bl many size)[i]? := by
  rw [cell_of_row _ _ _ _ _ _ h.1]; simp
theorem hash_at {bl : List UInt8} (h : bl.length = 64) (x : Value) (t : List Value) (i : Nat) : (x :: (bl.map u8V ++ t))[65 + i]? = t[i]? := by
  rw [show 65 + i = (64 + i) + 1 from by omega, List.getElem?_cons_succ, List.getElem?_append_right (by simp; omega)]
  simp [h]
theorem HashAt.c0 {w : World} {A : Alg} {hb sb cap : Nat} {bl : List UInt8} {many size : Nat} (h : HashAt w A hb sb cap bl many size) : w.cell? ⟨hb, 0, none⟩ = some (.slice (some ⟨sb, 0, none⟩) A.n cap) := h.cell 0
theorem HashAt.c65 {w : World} {A : Alg} {hb sb cap : Nat} {bl : List UInt8} {many size : Nat} (h : HashAt w A hb sb cap bl many size) : w.cell? ⟨hb, 65, none⟩ = some (.int .i64 many) := by
  rw [h.cell]; exact hash_at h.2 _ _ 0
theorem HashAt.c66 {w : World} {A : Alg} {hb sb cap : Nat} {bl : List UInt8} {many size : Nat} (h : HashAt w A hb sb cap bl many size) : w.cell? ⟨hb, 66, none⟩ = some (.int .u64 size) := by
  rw [h.cell]; exact hash_at h.2 _ _ 1
theorem HashAt.c67 {w : World} {A : Alg} {hb sb cap : Nat} {bl : List UInt8} {many size : Nat} (h : HashAt w A hb sb cap bl many size) : w.cell? ⟨hb, 67, none⟩ = some (.func (.func A.fn) #[] #[]) := by
  rw [h.cell]; exact hash_at h.2 _ _ 2
theorem HashAt.c68 {w : World} {A : Alg} {hb sb cap : Nat} {bl : List UInt8} {many size : Nat} (h : HashAt w A hb sb cap bl many size) : w.cell? ⟨hb, 68, none⟩ = some (.bool A.hi) := by
  rw [h.cell]; exact hash_at h.2 _ _ 3
theorem HashAt.frozen {w : World} {A : Alg} {hb sb cap : Nat} {bl : List UInt8} {many size : Nat} (h : HashAt w A hb sb cap bl many size) (i : Nat) : w.frozen? ⟨hb, i, none⟩ = false := frozen_of_row w hb i _ _ h.1
theorem HashAt.lt {w : World} {A : Alg} {hb sb cap : Nat} {bl : List UInt8} {many size : Nat} (h : HashAt w A hb sb cap bl many size) : hb < w.heap.size := lt_of_heap h.1
theorem hash_set {bl : List UInt8} (h : bl.length = 64) (x : Value) (t : List Value) (i : Nat) (v : Value) : (x :: (bl.map u8V ++ t)).set (65 + i) v = x :: (bl.map u8V ++ t.set i v) := by
  rw [show 65 + i = (64 + i) + 1 from by omega, List.set_cons_succ, List.set_append, if_neg (by simp; omega)]
  simp [h]
theorem HashAt.setMany {w : World} {A : Alg} {hb sb cap : Nat} {bl : List UInt8} {many size : Nat} (h : HashAt w A hb sb cap bl many size) (m : Nat) : HashAt (w.setCell ⟨hb, 65, none⟩ (.int .i64 m)) A hb sb cap bl m size := by
  refine ⟨?_, h.2⟩
  rw [heap_setCell_same w hb 65 _ _ _ h.1]
  congr 2
  rw [← Array.toList_inj]
  simp only [Array.toList_setIfInBounds]
  exact hash_set h.2 _ _ 0 _
theorem HashAt.setSize {w : World} {A : Alg} {hb sb cap : Nat} {bl : List UInt8} {many size : Nat} (h : HashAt w A hb sb cap bl many size) (m : Nat) : HashAt (w.setCell ⟨hb, 66, none⟩ (.int .u64 m)) A hb sb cap bl many m := by
  refine ⟨?_, h.2⟩
  rw [heap_setCell_same w hb 66 _ _ _ h.1]
  congr 2
  rw [← Array.toList_inj]
  simp only [Array.toList_setIfInBounds]
  exact hash_set h.2 _ _ 1 _
theorem HashAt.setBlock {w : World} {A : Alg} {hb sb cap : Nat} {bl : List UInt8} {many size : Nat} (h : HashAt w A hb sb cap bl many size) (m : Nat) (p : List UInt8) (hm : m + p.length ≤ 64) :
    HashAt (w.setRow hb ((hashL A sb cap bl many size).toArray.toList.take (1 + m) ++ Lib.byteCells p ++ (hashL A sb cap bl many size).toArray.toList.drop (1 + m + p.length)).toArray) A hb sb cap (bl.take m ++ p ++ bl.drop (m + p.length)) many size := by
  have hl := h.2
  refine ⟨?_, by simp; omega⟩
  simp only [World.setRow, Array.getElem?_modify, if_true, h.1, Option.map_some]
  congr 2
  rw [← Array.toList_inj]
  simp only [hashL]
  rw [show 1 + m = m + 1 from by omega, show m + 1 + p.length = (m + p.length) + 1 from by omega, List.take_succ_cons, List.drop_succ_cons]
  rw [List.take_append_of_le_length (by simp; omega), List.drop_append_of_le_length (by simp; omega)]
  simp [Lib.byteCells, u8V, List.map_take, List.map_drop]
theorem HashAt.x {w w' : World} {A : Alg} {hb sb cap : Nat} {bl : List UInt8} {many size : Nat} {S : List Nat} (h : HashAt w A hb sb cap bl many size) (hg : GX S w w') (hS : hb ∉ S) : HashAt w' A hb sb cap bl many size := ⟨hg.heap hS h.1, h.2⟩

/-- t has been told, and its size is said to be size. -/
structure ToldZ (w : World) (A : Alg) (hb sb cap : Nat) (t : List UInt8) (size : Nat) : Prop where
  hash : ∃ bl, HashAt w A hb sb cap bl (t.length % 64) size ∧ bl.take (t.length % 64) = t.drop (t.length / 64 * 64)
  st : StAt w sb (blocksA A t (t.length / 64))
  ne : sb ≠ hb
def ToldAt (w : World) (A : Alg) (hb sb cap : Nat) (t : List UInt8) : Prop := ToldZ w A hb sb cap t (t.length % 18446744073709551616)
theorem ToldZ.x {w w' : World} {A : Alg} {hb sb cap : Nat} {t : List UInt8} {size : Nat} {S : List Nat} (h : ToldZ w A hb sb cap t size) (hg : GX S w w') (h1 : hb ∉ S) (h2 : sb ∉ S) : ToldZ w' A hb sb cap t size := by
  obtain ⟨⟨bl, hh, hb'⟩, hs, hn⟩ := h
  exact ⟨⟨bl, hh.x hg h1, hb'⟩, hg.st h2 hs, hn⟩
theorem ToldAt.x {w w' : World} {A : Alg} {hb sb cap : Nat} {t : List UInt8} {S : List Nat} (h : ToldAt w A hb sb cap t) (hg : GX S w w') (h1 : hb ∉ S) (h2 : sb ∉ S) : ToldAt w' A hb sb cap t := ToldZ.x h hg h1 h2
theorem ToldZ.ltH {w : World} {A : Alg} {hb sb cap : Nat} {t : List UInt8} {size : Nat} (h : ToldZ w A hb sb cap t size) : hb < w.heap.size := h.hash.elim fun _ h => h.1.lt
theorem ToldZ.ltS {w : World} {A : Alg} {hb sb cap : Nat} {t : List UInt8} {size : Nat} (h : ToldZ w A hb sb cap t size) : sb < w.heap.size :=
  lt_of_cell (h.st 0 (by rw [blocksA_length]; exact A.n0)).1
/-- A piece that does not fill the block. -/
theorem told_part (t q : List UInt8) (n : Nat) (hn : t.length % 64 + n < 64) (hq : n ≤ q.length) (bl : List UInt8) (hbl : bl.length = 64) (hb : bl.take (t.length % 64) = t.drop (t.length / 64 * 64)) :
    (t ++ q.take n).length % 64 = t.length % 64 + n ∧ (t ++ q.take n).length / 64 = t.length / 64 ∧
    (bl.take (t.length % 64) ++ q.take n ++ bl.drop (t.length % 64 + n)).take (t.length % 64 + n) = (t ++ q.take n).drop ((t ++ q.take n).length / 64 * 64) := by
  have h1 : (t ++ q.take n).length = t.length + n := by simp; omega
  have h2 : (t ++ q.take n).length / 64 = t.length / 64 := by rw [h1]; omega
  refine ⟨by rw [h1]; omega, h2, ?_⟩
  rw [h2, List.drop_append_of_le_length (by omega), ← hb]
  rw [List.take_append_of_le_length (by simp; omega)]
  rw [List.take_of_length_le (by simp; omega)]
/-- A piece that fills it. -/
theorem told_full (t q : List UInt8) (n : Nat) (hn : t.length % 64 + n = 64) (hq : n ≤ q.length) (bl : List UInt8) (hbl : bl.length = 64) (hb : bl.take (t.length % 64) = t.drop (t.length / 64 * 64)) :
    (t ++ q.take n).length % 64 = 0 ∧ (t ++ q.take n).length / 64 = t.length / 64 + 1 ∧
    sub (t ++ q.take n) (64 * (t.length / 64)) (64 * (t.length / 64) + 64) = bl.take (t.length % 64) ++ q.take n ++ bl.drop (t.length % 64 + n) := by
  have h1 : (t ++ q.take n).length = t.length + n := by simp; omega
  refine ⟨by rw [h1]; omega, by rw [h1]; omega, ?_⟩
  unfold sub
  rw [List.take_of_length_le (by rw [h1]; omega), List.drop_append_of_le_length (by omega), Nat.mul_comm, ← hb, hn, List.drop_of_length_le (l := bl) (by omega)]
  simp
theorem toldz_full {w : World} {A : Alg} {hb sb cap SZ : Nat} (t q : List UInt8) (n : Nat) (hn : t.length % 64 + n = 64) (hq : n ≤ q.length) (bl BK : List UInt8) (hbl : bl.length = 64) (hb' : bl.take (t.length % 64) = t.drop (t.length / 64 * 64))
    (hBK : bl.take (t.length % 64) ++ q.take n ++ bl.drop (t.length % 64 + n) = BK) (hH : HashAt w A hb sb cap BK 0 SZ) (hS : StAt w sb (A.mix (blocksA A t (t.length / 64)) BK)) (hne : sb ≠ hb) : ToldZ w A hb sb cap (t ++ q.take n) SZ := by
  obtain ⟨h1, h2, h3⟩ := told_full t q n hn hq bl hbl hb'
  refine ⟨⟨BK, by rw [h1]; exact hH, ?_⟩, ?_, hne⟩
  · rw [h1, h2, List.take_zero, List.drop_of_length_le (by omega)]
  · rw [h2, blocksA, h3, hBK, blocksA_append _ _ _ _ (by omega)]
    exact hS
theorem toldz_part {w : World} {A : Alg} {hb sb cap SZ : Nat} (t q : List UInt8) (n : Nat) (hn : t.length % 64 + n < 64) (hq : n ≤ q.length) (bl : List UInt8) (hbl : bl.length = 64) (hb' : bl.take (t.length % 64) = t.drop (t.length / 64 * 64))
    (hH : HashAt w A hb sb cap (bl.take (t.length % 64) ++ q.take n ++ bl.drop (t.length % 64 + n)) (t.length % 64 + n) SZ) (hS : StAt w sb (blocksA A t (t.length / 64))) (hne : sb ≠ hb) : ToldZ w A hb sb cap (t ++ q.take n) SZ := by
  obtain ⟨h1, h2, h3⟩ := told_part t q n hn hq bl hbl hb'
  refine ⟨⟨_, by rw [h1]; exact hH, by rw [h1]; exact h3⟩, ?_, hne⟩
  rw [h2, blocksA_append _ _ _ _ (by omega)]
  exact hS
theorem sub_all (l : List UInt8) (n : Nat) : sub l n l.length = l.drop n := by simp [sub]
theorem told_none (t : List UInt8) (h : t.length % 64 = 0) : t.drop (t.length / 64 * 64) = [] := by
  rw [List.drop_of_length_le (by omega)]

/-- copy onto part of a block, out of a text. -/
theorem wpList_copy_str {P : Program} {ops : Array Oper} {rest : List Oper} {o : Oper} {a : Act} {w : World} {R : Exit → Act → World → Prop} (hgd : o.guard = none) (d x : Operand) (dT sT elem : TypeId)
    (hop : o.op = .call { callee := .builtin .copy, args := #[d, x], argTypes := #[dT, sT] }) (hu : P.underlying dT = some (.slice elem)) (hs : (P.info? elem).map (·.size) = some 1)
    (g off dLen dCap : Nat) (hd : a.eval d = .slice (some ⟨g, off, none⟩) dLen dCap) (s : List UInt8) (hx : a.eval x = .string ⟨s.toArray⟩) (cur : Array Value) (t : TypeId) (hg : w.heap[g]? = some (.cells cur t (0, 0)))
    (p : List UInt8) (hp : s.take dLen = p) (hfit : off + p.length ≤ cur.size)
    (h : wpList P ops R rest (a.put o.dst (goInt p.length)) (w.setRow g (cur.toList.take off ++ Lib.byteCells p ++ cur.toList.drop (off + p.length)).toArray)) : wpList P ops R (o :: rest) a w := by
  have hrun : (Builtin.copy_ #[dT, sT] o.type #[.slice (some ⟨g, off, none⟩) dLen dCap, .string ⟨s.toArray⟩]).run P w = .ok (goInt p.length) (w.setRow g (cur.toList.take off ++ Lib.byteCells p ++ cur.toList.drop (off + p.length)).toArray) := by
    have hst := run_storeCells_at P g off t (Lib.byteCells p) 0 cur w hg (by rw [Lib.byteCells_length]; simpa using hfit) (Lib.byteCells_one _)
    rw [Lib.byteCells_length] at hst
    simp only [Nat.add_zero] at hst
    have hsz : (ByteArray.mk s.toArray).size = s.length := rfl
    have hmin : Nat.min s.length dLen = p.length := by rw [← hp, List.length_take]; exact Nat.min_comm _ _
    have htk : List.take p.length (List.map (fun b : UInt8 => Value.int IntKind.u8 (b.toNat : Int)) s) = Lib.byteCells p := by
      rw [← hp, List.length_take, ← List.map_take]
      unfold Lib.byteCells
      congr 1
      rcases Nat.le_total dLen s.length with h | h
      · rw [Nat.min_eq_left h]
      · rw [Nat.min_eq_right h, List.take_length, List.take_of_length_le h]
    cases hq : P.info? elem with
    | none => simp [hq] at hs
    | some i =>
      simp [Builtin.copy_, run_underlying hu, Builtin.lenOf, Builtin.firstCells, sizeOf, typeInfo, hq, hsz, hmin]
      rw [htk, hst]
      simp [Result.andThen]
  refine wpList_plain hgd fun K hK => ?_
  have hfin := hK _ _ h
  generalize w.setRow g (cur.toList.take off ++ Lib.byteCells p ++ cur.toList.drop (off + p.length)).toArray = W at *
  unfold Oper.wp
  simp [execOp, hop, resolve, invoke, builtin, hd, hx, hrun, Result.andThen]
  exact hfin
end Go.Proofs.Yteadblkkbbhpjaa
