/- Texts of this proof, laid into one: JdA, JdB, JdC, JdD, JdE. -/
import Derived.Test.YtjbdjkpbkjkdpaaDoorMr03
import Derived.Laws.CopyOwn
import Derived.Maps.AppendAt
import Derived.Deep.RegionHeld3
/- A disk: what lies in memory; worlds that change the disk's blocks alone. -/
set_option linter.unusedVariables false
set_option linter.unusedSimpArgs false
namespace Go.Proofs.YtjbdjkpbkjkdpaaDoor
open Go Go.RowKit
/-- A disk, plain: what lasts, what is pending, the power (gone; its fuse), is it dead. -/
structure DskS where
  has : List UInt8
  wait : List (Nat × List UInt8)
  gone : Bool
  fuse : Int
  dead : Bool
def lateL (p : Nat × List UInt8) : List Value := [.int .i64 (p.1 : Int), .string ⟨p.2.toArray⟩]
def cellsW (l : List (Nat × List UInt8)) : List Value := l.flatMap lateL
theorem lateL_len (p : Nat × List UInt8) : (lateL p).length = 2 := rfl
theorem cellsW_len (l : List (Nat × List UInt8)) : (cellsW l).length = l.length * 2 := by
  induction l with
  | nil => rfl
  | cons p r ih => simp only [cellsW, List.flatMap_cons, List.length_append, lateL_len, List.length_cons] at *; omega
theorem cellsW_app (a b : List (Nat × List UInt8)) : cellsW (a ++ b) = cellsW a ++ cellsW b := by simp [cellsW]
theorem cellsW_one (p : Nat × List UInt8) : cellsW [p] = lateL p := by simp [cellsW]
theorem cellsW_at (ps : List (Nat × List UInt8)) : ∀ (j : Nat) (h : j < ps.length) (i : Nat), i < 2 → (cellsW ps)[j * 2 + i]? = (lateL ps[j])[i]? := by
  induction ps with
  | nil => intro j h; simp at h
  | cons p r ih =>
    intro j h i hi
    have e : cellsW (p :: r) = lateL p ++ cellsW r := by simp [cellsW]
    rw [e]
    cases j with
    | zero => rw [Nat.zero_mul, Nat.zero_add, List.getElem?_append_left (by rw [lateL_len]; exact hi)]; rfl
    | succ j =>
      rw [List.getElem?_append_right (by rw [lateL_len]; omega), lateL_len, show (j + 1) * 2 + i - 2 = j * 2 + i by omega, ih j (by simpa using h) i hi]
      rfl
/-- The pending writes, in a slice of the disk's own. -/
def OwnW (w0 w : World) (v : Value) (l : List (Nat × List UInt8)) : Prop := w.ownsRow w0.heap.size 76 2 v l.length (cellsW l)
theorem info_late : (Tryd.prog.info? 76).map (fun i => (i.zero, i.size, i.bytes)) = some (some (.agg #[.int .i64 0, .string ⟨#[]⟩]), 2, 24) := by kernel_rfl
theorem infoL : (Tryd.prog.info? 76).map (·.size) = some 2 := by kernel_rfl
theorem OwnW.nil (w0 w : World) : OwnW w0 w (.slice none 0 0) [] := ⟨rfl, .inl ⟨rfl, rfl⟩⟩
theorem OwnW.g {w0 w w' : World} {v : Value} {l : List (Nat × List UInt8)} {row : Option Nat} (h : OwnW w0 w v l) (hg : w.grownBy w' row) (hr : ∀ k, v.ownBlock = some k → row ≠ some k) : OwnW w0 w' v l := by
  refine ⟨h.1, ?_⟩
  rcases h.2 with h2 | ⟨g, cap, cur, hv, h1, h2, h3⟩
  · exact .inl h2
  · refine .inr ⟨g, cap, cur, hv, h1, ?_, h3⟩
    rw [hg.block g (Array.getElem?_eq_some_iff.1 h2).1 (fun e => hr g (by rw [hv]; rfl) e.symm)]
    exact h2
theorem OwnW.q {w0 w w' : World} {v : Value} {l : List (Nat × List UInt8)} (h : OwnW w0 w v l) (hq : Q w w') : OwnW w0 w' v l := h.g (hq.gb none) (fun _ _ e => by cases e)
theorem OwnW.block {w0 w : World} {v : Value} {l : List (Nat × List UInt8)} (h : OwnW w0 w v l) {k : Nat} (hk : v.ownBlock = some k) : w0.heap.size ≤ k ∧ k < w.heap.size ∧ ∃ cur fz, w.heap[k]? = some (.cells cur 76 fz) := by
  rcases h.2 with ⟨rfl, _⟩ | ⟨g, cap, cur, rfl, h1, h2, _⟩
  · cases hk
  · have := (Array.getElem?_eq_some_iff.1 h2).1
    have e : g = k := by simpa [Value.ownBlock] using hk
    subst e
    exact ⟨h1, this, cur, _, h2⟩
/-- Pending write j: its cells. -/
theorem OwnW.at {w0 w : World} {v : Value} {l : List (Nat × List UInt8)} (h : OwnW w0 w v l) : ∃ A cap, v = .slice A l.length cap ∧ l.length ≤ cap ∧ ∀ j (hj : j < l.length), ∃ g, A = some ⟨g, 0, none⟩ ∧ w.cell? ⟨g, j * 2, none⟩ = some (.int .i64 ((l[j].1 : Nat) : Int)) ∧ w.cell? ⟨g, j * 2 + 1, none⟩ = some (.string ⟨l[j].2.toArray⟩) := by
  rcases h.2 with ⟨rfl, h0⟩ | ⟨g, cap, cur, rfl, hb, hh, hn, hm, hcs, ht⟩
  · exact ⟨none, 0, by rw [h0], by omega, fun j hj => by omega⟩
  · refine ⟨_, cap, rfl, hn, fun j hj => ⟨g, rfl, ?_, ?_⟩⟩
    · have e := cellsW_at l j hj 0 (by omega)
      have e2 : cur[j * 2]? = some (.int .i64 ((l[j].1 : Nat) : Int)) := by
        rw [← ht, List.getElem?_take, if_pos (by omega)] at e
        rw [← Array.getElem?_toList]; simpa [lateL] using e
      rw [cell_of_row _ _ _ _ _ _ hh]; exact e2
    · have e := cellsW_at l j hj 1 (by omega)
      have e2 : cur[j * 2 + 1]? = some (.string ⟨l[j].2.toArray⟩) := by
        rw [← ht, List.getElem?_take, if_pos (by omega)] at e
        rw [← Array.getElem?_toList]; simpa [lateL] using e
      rw [cell_of_row _ _ _ _ _ _ hh]; exact e2
/-- append(l, p). -/
theorem wpList_append_w {ops : Array Oper} {rest : List Oper} {o : Oper} {a : Act} {R : Exit → Act → World → Prop} (hgd : o.guard = none) (s x : Operand)
    (ho : o.op = .call { callee := .builtin .append, args := #[s, x], argTypes := #[72, 72] })
    (w0 W : World) (v : Value) (ps : List (Nat × List UInt8)) (p : Nat × List UInt8) (hs : a.eval s = v) (hown : OwnW w0 W v ps) (hx : a.eval x = .slice (some ⟨W.heap.size, 0, none⟩) 1 1) (hq : w0.heap.size ≤ W.heap.size) (hb : (ps.length + 1) * 24 ≤ 140737488355328)
    (h : ∀ v' w', OwnW w0 w' v' (ps ++ [p]) → W.grownBy w' v.ownBlock → wpList Tryd.prog ops R rest (a.put o.dst v') w') : wpList Tryd.prog ops R (o :: rest) a (W.alloc (.cells (lateL p).toArray 76)) := by
  obtain ⟨i, hi, hz, hsz, hby⟩ := info_parts info_late
  have hown1 : OwnW w0 (W.alloc (.cells (lateL p).toArray 76)) v ps := hown.q ((Q.refl W).alloc _)
  refine wpList_append_own_at (w := W.alloc (.cells (lateL p).toArray 76)) hgd s x 72 ho w0.heap.size 76 i _ 2 24 Tryd.underlying72 hi hz hsz hby rfl (by decide) v ps.length (cellsW ps) hs hown1 ⟨W.heap.size, 0, none⟩ 1 1 (lateL p) hx rfl ?_ ?_ (by unfold maxLen; omega) hb (by simp; omega) ?_
  · intro j u hj
    have e : (Addr.add ⟨W.heap.size, 0, none⟩ j) = ⟨W.heap.size, j, none⟩ := by unfold Addr.add; split <;> simp_all
    rw [e, cell_of_row _ _ _ _ _ _ (MapKept.heap_alloc W _).1]
    simpa using hj
  · intro u hu
    simp only [lateL, List.mem_cons, List.not_mem_nil, or_false] at hu
    rcases hu with rfl | rfl <;> rfl
  · intro v' w' h2 hg _ hb2
    refine h v' w' ?_ ((World.grownBy_alloc W _ _).trans hg)
    unfold OwnW; rw [cellsW_app, cellsW_one, List.length_append]; exact h2
/-- The type of what a block holds. -/
def elemT (w : World) (k : Nat) : Option TypeId := match w.heap[k]? with | some (.cells _ t _) => some t | _ => none
/-- Is it one of the disk's? -/
def dT (o : Option TypeId) : Bool := o == some 74 || o == some 71 || o == some 76 || o == some 5
theorem elemT_of {w : World} {k : Nat} {cs : Array Value} {t : TypeId} {fz : Nat × Nat} (h : w.heap[k]? = some (.cells cs t fz)) : elemT w k = some t := by unfold elemT; rw [h]
/-- All that stood stays, but what the disk's blocks hold, and these. -/
structure K (w0 : World) (S : List Nat) (a b : World) : Prop where
  os : b.os = a.os
  tape : b.tape = a.tape
  output : b.output = a.output
  size : a.heap.size ≤ b.heap.size
  block : ∀ k, k < a.heap.size → k ∉ S → (k < w0.heap.size ∨ dT (elemT a k) = false) → b.heap[k]? = a.heap[k]?
theorem K.q {w0 : World} {S : List Nat} {a b : World} (h : Q a b) : K w0 S a b := ⟨h.os, h.tape, h.output, h.size, fun k hk _ _ => Below.block h k hk⟩
theorem K.trans {w0 : World} {S : List Nat} {a b c : World} (h : K w0 S a b) (k : K w0 S b c) : K w0 S a c :=
  ⟨k.os.trans h.os, k.tape.trans h.tape, k.output.trans h.output, Nat.le_trans h.size k.size, fun i hi hs hd => by
    have e := h.block i hi hs hd
    rw [k.block i (Nat.lt_of_lt_of_le hi h.size) hs (by rcases hd with hd | hd; exact .inl hd; exact .inr (by unfold elemT at *; rw [e]; exact hd)), e]⟩
theorem K.mono {w0 : World} {S S' : List Nat} {a b : World} (h : K w0 S a b) (hs : ∀ x ∈ S, x ∈ S') : K w0 S' a b := ⟨h.os, h.tape, h.output, h.size, fun k hk hn hd => h.block k hk (fun hm => hn (hs k hm)) hd⟩
theorem K.gb {w0 : World} {S : List Nat} {a b : World} {k : Nat} (h : a.grownBy b (some k)) (h0 : w0.heap.size ≤ k) (hk : k ∈ S ∨ dT (elemT a k) = true) : K w0 S a b :=
  ⟨h.os, h.tape, h.output, h.size, fun i hi hn hd => h.block i hi (by
    intro e; injection e with e; subst e
    rcases hk with hk | hk
    · exact hn hk
    · rcases hd with hd | hd
      · omega
      · rw [hk] at hd; cases hd)⟩
theorem gb_setCell (w : World) (g i : Nat) (v : Value) : w.grownBy (w.setCell ⟨g, i, none⟩ v) (some g) := Lib.grownBy_setCell w g i v
theorem gb_setRow (w : World) (g : Nat) (cs : Array Value) : w.grownBy (w.setRow g cs) (some g) := ⟨rfl, rfl, rfl, by simp [World.setRow], fun b _ hb => setRow_other _ _ b _ (fun e => hb (by rw [e]))⟩
/-- What changed new blocks alone. -/
theorem K.toQ {w0 : World} {S : List Nat} {a b : World} (h : K w0 S a b) (hq : Q w0 a) (hn : ∀ k ∈ S, w0.heap.size ≤ k) : Q w0 b :=
  Q.below hq ⟨h.os, h.tape, h.output, by have := h.size; have := hq.size; omega, fun k hk => h.block k (Nat.lt_of_lt_of_le hk hq.size) (fun hm => by have := hn k hm; omega) (.inl hk)⟩
theorem K.heap {w0 : World} {S : List Nat} {a b : World} (h : K w0 S a b) {k : Nat} {cs : Array Value} {t : TypeId} {fz : Nat × Nat} (hk : k ∉ S) (ht : dT (some t) = false) (ho : a.heap[k]? = some (.cells cs t fz)) : b.heap[k]? = some (.cells cs t fz) :=
  (h.block k (lt_of_heap ho) hk (.inr (by rw [elemT_of ho]; exact ht))).trans ho
def DskS.n (d : DskS) : Nat := d.has.length / 64
structure DskS.Ok (d : DskS) : Prop where
  len : d.has.length = 64 * d.n
  most : d.n ≤ 8192
  fuse : -1 ≤ d.fuse ∧ d.fuse ≤ 9223372036854775807
  wait : ∀ p ∈ d.wait, p.1 < d.n ∧ p.2.length = 64
/-- The disk in memory: its own block, its power's, its bytes'. -/
structure DAt (w0 w : World) (bd bp gh : Nat) (d : DskS) : Prop where
  box : ∃ wv life, w.heap[bd]? = some (.cells #[.pointer (some ⟨bp, 0, none⟩), .slice (some ⟨gh, 0, none⟩) d.has.length d.has.length, wv, .bool d.dead, .int .i64 life] 74 (0, 0)) ∧ OwnW w0 w wv d.wait
  pow : ∃ acts, w.heap[bp]? = some (.cells #[.bool d.gone, .int .i64 d.fuse, .int .i64 acts] 71 (0, 0)) ∧ -9223372036854775808 ≤ acts ∧ acts ≤ 9223372036854775807
  mem : w.heap[gh]? = some (.cells (arrB d.has) 5 (0, 0))
  nd : w0.heap.size ≤ bd
  np : w0.heap.size ≤ bp
  nh : w0.heap.size ≤ gh
  ok : d.Ok
theorem DAt.q {w0 w w' : World} {bd bp gh : Nat} {d : DskS} (h : DAt w0 w bd bp gh d) (hq : Q w w') : DAt w0 w' bd bp gh d := by
  obtain ⟨wv, life, h1, h2⟩ := h.box
  obtain ⟨acts, h3, h4⟩ := h.pow
  exact ⟨⟨wv, life, hq.block h1, h2.q hq⟩, ⟨acts, hq.block h3, h4⟩, hq.block h.mem, h.nd, h.np, h.nh, h.ok⟩
/-- Blocks of other types may change. -/
theorem DAt.gb {w0 w w' : World} {bd bp gh : Nat} {d : DskS} (h : DAt w0 w bd bp gh d) {g : Nat} (hg : w.grownBy w' (some g)) (ht : dT (elemT w g) = false) : DAt w0 w' bd bp gh d := by
  obtain ⟨wv, life, h1, h2⟩ := h.box
  obtain ⟨acts, h3, h4⟩ := h.pow
  have keep : ∀ {k : Nat} {cs : Array Value} {t : TypeId} {fz : Nat × Nat}, w.heap[k]? = some (.cells cs t fz) → dT (some t) = true → w'.heap[k]? = some (.cells cs t fz) := fun {k cs t fz} hk hd => by
    rw [hg.block k (lt_of_heap hk) (fun e => by injection e with e; subst e; rw [elemT_of hk, hd] at ht; cases ht)]; exact hk
  refine ⟨⟨wv, life, keep h1 (by decide), h2.g hg (fun k hk e => ?_)⟩, ⟨acts, keep h3 (by decide), h4⟩, keep h.mem (by decide), h.nd, h.np, h.nh, h.ok⟩
  injection e with e; subst e
  obtain ⟨_, _, cur, fz, hh⟩ := h2.block hk
  rw [elemT_of hh] at ht
  revert ht; decide
theorem DAt.bp_cell {w0 w : World} {bd bp gh : Nat} {d : DskS} (h : DAt w0 w bd bp gh d) : w.cell? ⟨bd, 0, none⟩ = some (.pointer (some ⟨bp, 0, none⟩)) := by
  obtain ⟨wv, life, h1, h2⟩ := h.box; rw [cell_of_row _ _ _ _ _ _ h1]; rfl
theorem DAt.has_cell {w0 w : World} {bd bp gh : Nat} {d : DskS} (h : DAt w0 w bd bp gh d) : w.cell? ⟨bd, 1, none⟩ = some (.slice (some ⟨gh, 0, none⟩) d.has.length d.has.length) := by
  obtain ⟨wv, life, h1, h2⟩ := h.box; rw [cell_of_row _ _ _ _ _ _ h1]; rfl
theorem DAt.dead_cell {w0 w : World} {bd bp gh : Nat} {d : DskS} (h : DAt w0 w bd bp gh d) : w.cell? ⟨bd, 3, none⟩ = some (.bool d.dead) := by
  obtain ⟨wv, life, h1, h2⟩ := h.box; rw [cell_of_row _ _ _ _ _ _ h1]; rfl
theorem DAt.gone_cell {w0 w : World} {bd bp gh : Nat} {d : DskS} (h : DAt w0 w bd bp gh d) : w.cell? ⟨bp, 0, none⟩ = some (.bool d.gone) := by
  obtain ⟨acts, h1, h2⟩ := h.pow; rw [cell_of_row _ _ _ _ _ _ h1]; rfl
theorem DAt.fuse_cell {w0 w : World} {bd bp gh : Nat} {d : DskS} (h : DAt w0 w bd bp gh d) : w.cell? ⟨bp, 1, none⟩ = some (.int .i64 d.fuse) := by
  obtain ⟨acts, h1, h2⟩ := h.pow; rw [cell_of_row _ _ _ _ _ _ h1]; rfl
end Go.Proofs.YtjbdjkpbkjkdpaaDoor
/- The disk's small functions. -/
set_option linter.unusedVariables false
set_option linter.unusedSimpArgs false
namespace Go.Proofs.YtjbdjkpbkjkdpaaDoor
open Go Go.RowKit
set_option maxHeartbeats 400000 in
theorem dfault_any (c : Int) (w : World) (hc : c ≠ 0) :
    Calls Tryd.prog 46 #[.int .i64 c] w fun e w' => (∃ v, e = .returned v ∧ ErrIs w' v c 0) ∧ Q w w' := by
  go_enter Tryd.func46, Tryd.ntmps46
  go_wp2
  go_ret
  exact ⟨⟨_, rfl, .inr ⟨hc, w.heap.size, rfl, (MapKept.heap_alloc w _).1⟩⟩, (Q.refl _).alloc _⟩
theorem Sectors_dk {w0 w : World} {bd bp gh : Nat} {d : DskS} (h : DAt w0 w bd bp gh d) :
    Calls Tryd.prog 47 #[.pointer (some ⟨bd, 0, none⟩)] w fun e w' => e = .returned (.int .i64 (d.n : Int)) ∧ w = w' := by
  have c1 := h.has_cell
  have h1 := h.ok.len
  have h2 := h.ok.most
  have hl : (d.has.length : Int) ≤ 524288 := by unfold DskS.n at *; omega
  unfold DskS.n
  clear h1 h2
  go_enter Tryd.func47, Tryd.ntmps47
  go_wp2_with fail
  go_ret
  exact ⟨ret_int (by omega), rfl⟩
/-- Whether a sector can be had: the error. -/
def readyC (d : DskS) (i : Int) : Int := if d.gone then 10 else if d.dead then 11 else if i < 0 ∨ (d.n : Int) ≤ i then 1 else 0
set_option maxHeartbeats 1000000 in
theorem ready_any {w0 w : World} {bd bp gh : Nat} {d : DskS} (i : Int) (h : DAt w0 w bd bp gh d) :
    Calls Tryd.prog 68 #[.pointer (some ⟨bd, 0, none⟩), .int .i64 i] w fun e w' => (∃ v, e = .returned v ∧ ErrIs w' v (readyC d i) 0) ∧ Q w w' := by
  have c0 := h.bp_cell
  have c3 := h.dead_cell
  have p0 := h.gone_cell
  have HS := Lib.hid (Sectors_dk h)
  have HF := Lib.hid dfault_any
  clear h
  unfold readyC
  go_enter Tryd.func68, Tryd.ntmps68
  cases hg : d.gone with
  | true =>
    rw [hg] at p0
    clear hg
    go_wp2_with fail
    refine (HF.out 10 _ (by decide)).mono ?_
    rintro e w1 ⟨⟨v, rfl, hv⟩, hq⟩
    go_wp2_with fail
    go_ret
    exact ⟨⟨v, rfl, hv⟩, hq⟩
  | false =>
    rw [hg] at p0
    clear hg
    cases hd : d.dead with
    | true =>
      rw [hd] at c3
      clear hd
      go_wp2_with fail
      refine (HF.out 11 _ (by decide)).mono ?_
      rintro e w1 ⟨⟨v, rfl, hv⟩, hq⟩
      go_wp2_with fail
      go_ret
      exact ⟨⟨v, rfl, hv⟩, hq⟩
    | false =>
      rw [hd] at c3
      clear hd
      by_cases hi : i < 0
      · have g1 : decide (i < 0) = true := decide_eq_true hi
        go_wp2_with fail
        refine (HF.out 1 _ (by decide)).mono ?_
        rintro e w1 ⟨⟨v, rfl, hv⟩, hq⟩
        go_wp2_with fail
        go_ret
        exact ⟨⟨v, rfl, by simpa [hi] using hv⟩, hq⟩
      · have g1 : decide (i < 0) = false := decide_eq_false hi
        by_cases hn : (d.n : Int) ≤ i
        · have g2 : decide ((d.n : Int) ≤ i) = true := decide_eq_true hn
          go_wp2_with fail
          refine HS.out.mono ?_
          rintro e w1 ⟨rfl, rfl⟩
          go_wp2_with fail
          refine (HF.out 1 _ (by decide)).mono ?_
          rintro e w1 ⟨⟨v, rfl, hv⟩, hq⟩
          go_wp2_with fail
          go_ret
          exact ⟨⟨v, rfl, by simpa [hn] using hv⟩, hq⟩
        · have g2 : decide ((d.n : Int) ≤ i) = false := decide_eq_false hn
          go_wp2_with fail
          refine HS.out.mono ?_
          rintro e w1 ⟨rfl, rfl⟩
          go_wp2_with fail
          go_ret
          exact ⟨⟨.nilIface, rfl, .inl ⟨by simp [hi, hn], rfl⟩⟩, Q.refl _⟩
/-- The power's block written anew. -/
theorem DAt.powset {w0 w w' : World} {bd bp gh : Nat} {d : DskS} (h : DAt w0 w bd bp gh d) (g : Bool) (f a : Int) (ha : -9223372036854775808 ≤ a ∧ a ≤ 9223372036854775807) (hf : -1 ≤ f ∧ f ≤ 9223372036854775807) (hgb : w.grownBy w' (some bp))
    (hh : w'.heap[bp]? = some (.cells #[.bool g, .int .i64 f, .int .i64 a] 71 (0, 0))) : DAt w0 w' bd bp gh { d with gone := g, fuse := f } ∧ K w0 [] w w' := by
  obtain ⟨wv, life, h1, h2⟩ := h.box
  obtain ⟨acts, h3, h4⟩ := h.pow
  have keep : ∀ {k : Nat} {cs : Array Value} {t : TypeId} {fz : Nat × Nat}, w.heap[k]? = some (.cells cs t fz) → t ≠ 71 → w'.heap[k]? = some (.cells cs t fz) := fun {k cs t fz} hk hd => by
    rw [hgb.block k (lt_of_heap hk) (fun e => by injection e with e; subst e; rw [h3] at hk; injection hk with hk; injection hk with _ e2 _; exact hd e2.symm)]; exact hk
  refine ⟨⟨⟨wv, life, keep h1 (by decide), h2.g hgb (fun k hk e => ?_)⟩, ⟨a, hh, ha⟩, keep h.mem (by decide), h.nd, h.np, h.nh, ⟨h.ok.len, h.ok.most, hf, h.ok.wait⟩⟩, K.gb hgb h.np (.inr (by rw [elemT_of h3]; decide))⟩
  injection e with e; subst e
  obtain ⟨_, _, cur, fz, hh2⟩ := h2.block hk
  rw [h3] at hh2
  injection hh2 with hh2
  injection hh2 with _ e2 _
  revert e2; decide
/-- What an act leaves. -/
def actD (d : DskS) : DskS := if d.fuse = 0 then { d with gone := true } else { d with fuse := if 0 < d.fuse then d.fuse - 1 else d.fuse }
theorem gb_two {w : World} {g i j : Nat} (u v : Value) : w.grownBy ((w.setCell ⟨g, i, none⟩ u).setCell ⟨g, j, none⟩ v) (some g) := gb_set (gb_setCell w g i u) j v
set_option maxHeartbeats 1000000 in
theorem act_any {w0 w : World} {bd bp gh : Nat} {d : DskS} (h : DAt w0 w bd bp gh d) :
    Calls Tryd.prog 69 #[.pointer (some ⟨bp, 0, none⟩)] w fun e w' => e = .returned (.bool (decide (d.fuse ≠ 0))) ∧ DAt w0 w' bd bp gh (actD d) ∧ K w0 [] w w' := by
  obtain ⟨acts, hp, ha⟩ := h.pow
  have p0 := h.gone_cell
  have p1 := h.fuse_cell
  have p2 : w.cell? ⟨bp, 2, none⟩ = some (.int .i64 acts) := by rw [cell_of_row _ _ _ _ _ _ hp]; rfl
  have f0 := frozen_of_row w bp 0 _ _ hp
  have f1 := frozen_of_row w bp 1 _ _ hp
  have f2 := frozen_of_row w bp 2 _ _ hp
  have hf := h.ok.fuse
  have HD := Lib.hid h
  have HP := Lib.hid hp
  unfold actD
  clear h hp
  go_enter Tryd.func69, Tryd.ntmps69
  by_cases h0 : d.fuse = 0
  · have g0 : (d.fuse == 0) = true := by simpa using h0
    have HH := Lib.hid (HD.out.powset true d.fuse acts ha hf (gb_setCell w bp 0 (.bool true)) (by rw [heap_setCell_any w bp 0 _ _ _ _ HP.out]; rfl))
    rw [if_pos h0, show decide (d.fuse ≠ 0) = false by simpa using h0]
    clear hf
    go_wp2_with fail
    go_ret
    exact ⟨rfl, HH.out.1, HH.out.2⟩
  · have g0 : (d.fuse == 0) = false := by simpa using h0
    rw [if_neg h0, show decide (d.fuse ≠ 0) = true by simpa using h0]
    obtain ⟨a2, ha2, hw⟩ : ∃ a2, (-9223372036854775808 ≤ a2 ∧ a2 ≤ 9223372036854775807) ∧ wrap64 (acts + 1) = a2 := ⟨_, by unfold wrap64; omega, rfl⟩
    by_cases h1 : 0 < d.fuse
    · have g1 : decide (0 < d.fuse) = true := decide_eq_true h1
      have HH := Lib.hid (HD.out.powset d.gone (d.fuse - 1) a2 ha2 (by omega) (gb_two (.int .i64 (d.fuse - 1)) (.int .i64 a2)) (by rw [heap_setCell_any _ bp 2 _ _ _ _ (heap_setCell_any w bp 1 _ _ _ _ HP.out)]; rfl))
      rw [if_pos h1]
      go_wp2_with fail
      go_ret
      exact ⟨rfl, HH.out.1, HH.out.2⟩
    · have g1 : decide (0 < d.fuse) = false := decide_eq_false h1
      have HH := Lib.hid (HD.out.powset d.gone d.fuse a2 ha2 hf (gb_setCell w bp 2 (.int .i64 a2)) (by rw [heap_setCell_any w bp 2 _ _ _ _ HP.out]; rfl))
      rw [if_neg h1]
      go_wp2_with fail
      go_ret
      exact ⟨rfl, HH.out.1, HH.out.2⟩
end Go.Proofs.YtjbdjkpbkjkdpaaDoor
/- The disk's Write. -/
set_option linter.unusedVariables false
set_option linter.unusedSimpArgs false
namespace Go.Proofs.YtjbdjkpbkjkdpaaDoor
open Go Go.RowKit
/-- The pending writes laid anew. -/
theorem DAt.put {w0 W w' : World} {bd bp gh : Nat} {d : DskS} (h : DAt w0 W bd bp gh d) {wv : Value} (hc : W.cell? ⟨bd, 2, none⟩ = some wv) (hg : W.grownBy w' wv.ownBlock) {v' : Value} {l : List (Nat × List UInt8)} (ho : OwnW w0 w' v' l)
    (hl : ∀ p ∈ l, p.1 < d.n ∧ p.2.length = 64) : DAt w0 (w'.setCell ⟨bd, 2, none⟩ v') bd bp gh { d with wait := l } ∧ K w0 [] W (w'.setCell ⟨bd, 2, none⟩ v') := by
  obtain ⟨wv2, life, h1, h2⟩ := h.box
  have e : wv2 = wv := by
    rw [cell_of_row _ _ _ _ _ _ h1] at hc
    injection hc
  subst e
  obtain ⟨acts, h3, h4⟩ := h.pow
  have keep : ∀ {k : Nat} {cs : Array Value} {t : TypeId} {fz : Nat × Nat}, W.heap[k]? = some (.cells cs t fz) → t ≠ 76 → w'.heap[k]? = some (.cells cs t fz) := fun {k cs t fz} hk hd => by
    rw [hg.block k (lt_of_heap hk) (fun e => by
      obtain ⟨_, _, cur, fz2, hh⟩ := h2.block e.symm
      rw [hk] at hh; injection hh with hh; injection hh with _ e2 _; exact hd e2)]
    exact hk
  have b1 := keep h1 (by decide)
  have b3 := keep h3 (by decide)
  have b4 := keep h.mem (by decide)
  have other : ∀ {k : Nat} {cs : Array Value} {t : TypeId} {fz : Nat × Nat}, w'.heap[k]? = some (.cells cs t fz) → t ≠ 74 → (w'.setCell ⟨bd, 2, none⟩ v').heap[k]? = some (.cells cs t fz) := fun {k cs t fz} hk hd => by
    rw [heap_setCell_other w' ⟨bd, 2, none⟩ k v' (fun e => by subst e; rw [b1] at hk; injection hk with hk; injection hk with _ e2 _; exact hd e2.symm)]; exact hk
  refine ⟨⟨⟨v', life, ?_, ?_⟩, ⟨acts, other b3 (by decide), h4⟩, other b4 (by decide), h.nd, h.np, h.nh, ⟨h.ok.len, h.ok.most, h.ok.fuse, hl⟩⟩, ?_⟩
  · rw [heap_setCell_any w' bd 2 _ _ _ _ b1]; rfl
  · refine ho.g (gb_setCell w' bd 2 v') (fun k hk e => ?_)
    injection e with e; subst e
    obtain ⟨_, _, cur, fz, hh⟩ := ho.block hk
    rw [b1] at hh
    injection hh with hh; injection hh with _ e2 _; revert e2; decide
  · refine K.trans (b := w') ?_ (K.gb (gb_setCell w' bd 2 v') h.nd (.inr (by rw [elemT_of b1]; decide)))
    refine ⟨hg.os, hg.tape, hg.output, hg.size, fun k hk _ hd => hg.block k hk (fun e => ?_)⟩
    obtain ⟨h5, _, cur, fz, hh⟩ := h2.block e.symm
    rcases hd with hd | hd
    · omega
    · rw [elemT_of hh] at hd; revert hd; decide
/-- What a write leaves, and its error. -/
def writeC (d : DskS) (i : Int) (s : List UInt8) : Int := if readyC d i ≠ 0 then readyC d i else if s.length ≠ 64 then 1 else if d.fuse = 0 then 10 else 0
def writeD (d : DskS) (i : Int) (s : List UInt8) : DskS := if readyC d i ≠ 0 ∨ s.length ≠ 64 then d else if d.fuse = 0 then actD d else { actD d with wait := d.wait ++ [(i.toNat, s)] }
theorem ready_lt {d : DskS} {i : Int} (h : readyC d i = 0) : 0 ≤ i ∧ i < (d.n : Int) := by
  unfold readyC at h
  split at h
  · cases h
  · split at h
    · cases h
    · split at h
      · cases h
      · omega
theorem actD_same (d : DskS) : (actD d).has = d.has ∧ (actD d).wait = d.wait ∧ (actD d).dead = d.dead := by unfold actD; split <;> exact ⟨rfl, rfl, rfl⟩
set_option maxRecDepth 100000 in
set_option maxHeartbeats 2000000 in
theorem Write_any {w0 w : World} {bd bp gh : Nat} {d : DskS} (i : Int) (s : List UInt8) (h : DAt w0 w bd bp gh d) (hs : s.length ≤ 140737488355328) (hw : d.wait.length ≤ 1000000) (h0 : w0.heap.size ≤ w.heap.size) :
    Calls Tryd.prog 48 #[.pointer (some ⟨bd, 0, none⟩), .int .i64 i, .string ⟨s.toArray⟩] w fun e w' => (∃ v, e = .returned v ∧ ErrIs w' v (writeC d i s) 0) ∧ DAt w0 w' bd bp gh (writeD d i s) ∧ K w0 [] w w' := by
  have HD := Lib.hid h
  have HF := Lib.hid dfault_any
  have HR := Lib.hid (ready_any i h)
  have HLT := Lib.hid (ready_lt (d := d) (i := i))
  obtain ⟨rc, hrc⟩ : ∃ rc, readyC d i = rc := ⟨_, rfl⟩
  obtain ⟨C, hC⟩ : ∃ C, writeC d i s = C := ⟨_, rfl⟩
  obtain ⟨D, hD⟩ : ∃ C, writeD d i s = C := ⟨_, rfl⟩
  have HC := Lib.hid hC
  have HW := Lib.hid hD
  rw [hC, hD]
  unfold writeC at HC
  unfold writeD at HW
  rw [hrc] at HR HLT HC HW
  clear h hrc hC hD
  go_enter Tryd.func48, Tryd.ntmps48
  go_wp2_with fail
  refine HR.out.mono ?_
  rintro e w1 ⟨⟨v1, rfl, hv1⟩, hq1⟩
  have HD1 := Lib.hid (HD.out.q hq1)
  rcases hv1 with ⟨hc, rfl⟩ | ⟨hc, b, rfl, hf⟩
  · subst hc
    rw [if_neg (by simp)] at HC
    obtain ⟨k, rfl⟩ : ∃ k : Nat, i = (k : Int) := ⟨i.toNat, by have := HLT.out rfl; omega⟩
    have HKN : Hid (k < d.n) := Lib.hid (by have := HLT.out rfl; omega)
    rw [Int.toNat_natCast] at HW
    by_cases hl : s.length = 64
    · have g1 : ((s.length : Int) != 64) = false := by simp; omega
      have c0 := HD1.out.bp_cell
      rw [if_neg (by simpa using hl)] at HC
      rw [if_neg (by simpa using hl)] at HW
      go_wp2_with fail
      refine (act_any HD1.out).mono ?_
      rintro e w2 ⟨rfl, hd2, hk2⟩
      have HD2 := Lib.hid hd2
      have HK2 := Lib.hid ((K.q (w0 := w0) (S := []) hq1).trans hk2)
      clear hd2 hk2 hq1 c0
      by_cases hz : d.fuse = 0
      · rw [if_pos hz] at HC HW
        rw [show decide (d.fuse ≠ 0) = false by simpa using hz]
        go_wp2_with fail
        refine (HF.out 10 _ (by decide)).mono ?_
        rintro e w3 ⟨⟨v, rfl, hv⟩, hq⟩
        have HD3 := Lib.hid (HD2.out.q hq)
        have HK3 := Lib.hid (HK2.out.trans (K.q hq))
        go_wp2_with fail
        go_ret
        exact ⟨⟨v, rfl, by rw [← HC.out]; exact hv⟩, by rw [← HW.out]; exact HD3.out, HK3.out⟩
      · rw [if_neg hz] at HC HW
        rw [show decide (d.fuse ≠ 0) = true by simpa using hz]
        go_upto_region 8 with (fail)
        have h02 : w0.heap.size ≤ w2.heap.size := Nat.le_trans h0 HK2.out.size
        obtain ⟨wv, life, hb1, hb2⟩ := HD2.out.box
        have c2 : w2.cell? ⟨bd, 2, none⟩ = some wv := by rw [cell_of_row _ _ _ _ _ _ hb1]; rfl
        have kc2 : ∀ m : QW w2, m.val.cell? ⟨bd, 2, none⟩ = some wv := fun m => m.cell c2
        rw [(actD_same d).2.1] at hb2
        have HB2 := Lib.hid hb2
        clear hb1 hb2
        refine wp_region_noPanic ?_
        refine wp_fin [0] [([1, 2, 3, 4, 5, 6], [7, 8, 9])] [10, 11, 12, 13] (by kernel_rfl) (by kernel_rfl) (fun _ _ _ _ _ h => h) ?_
        simp only [wpFin, wpListK, List.map_cons, List.map_nil, Array.getD_eq_getD_getElem?, List.getElem?_toArray, List.getElem?_cons_succ, List.getElem?_cons_zero, Option.getD_some]
        (repeat (go_big_quiet_step (fail)))
        refine wpQuiet_nil ?_
        (repeat (go_big_quiet_step (fail)))
        refine wpQuiet_nil ?_
        obtain ⟨Wd, hWd⟩ : ∃ W, w2.drew = W := ⟨_, rfl⟩
        have hqd : Q w2 Wd := by rw [← hWd]; exact (Q.refl w2).drew
        rw [hWd]
        clear hWd kc2
        intro K hK
        go_wp2_with fail
        refine (Clone_any s _ hs).mono ?_
        rintro e w3 ⟨rfl, hq3⟩
        have hq3 := hqd.trans hq3
        clear hqd
        go_wp2_with fail
        refine hK.out _ _ ⟨⟨w3, hq3⟩, rfl⟩ ?_
        clear hK K
        intro K hK
        go_wp2_with fail
        refine hK.out _ _ ⟨⟨w3, hq3⟩, rfl⟩ ?_
        clear hK K
        intro K hK
        go_wp2_with fail
        refine hK.out _ _ ⟨⟨_, hq3.alloc _⟩, rfl⟩ ?_
        clear hK K
        have HD3 := Lib.hid (HD2.out.q hq3)
        have HO3 := Lib.hid (HB2.out.q hq3)
        obtain ⟨wv4, life4, hb4, hb5⟩ := HD3.out.box
        have hc3 : w3.cell? ⟨bd, 2, none⟩ = some wv4 := by rw [cell_of_row _ _ _ _ _ _ hb4]; rfl
        have e4 : wv4 = wv := by have := hq3.cell c2; rw [hc3] at this; injection this
        subst e4
        have HK3 := Lib.hid (HK2.out.trans (K.q hq3))
        have h03 : w0.heap.size ≤ w3.heap.size := Nat.le_trans h02 hq3.size
        clear hq3 c2 h02
        refine wpList_append_w rfl (.tmp 29) (.tmp 34) rfl w0 w3 wv4 d.wait (k, s) (by rfl) HO3.out (by rfl) h03 (by omega) ?_
        intro v' w' ho hg
        obtain ⟨A5, n5, c5, rfl⟩ : ∃ A5 n5 c5, v' = Value.slice A5 n5 c5 := by obtain ⟨A5, c5, hv, _⟩ := ho.at; exact ⟨A5, _, c5, hv⟩
        have hb6 : w'.heap[bd]? = some (.cells #[.pointer (some ⟨bp, 0, none⟩), .slice (some ⟨gh, 0, none⟩) (actD d).has.length (actD d).has.length, wv4, .bool (actD d).dead, .int .i64 life4] 74 (0, 0)) := by
          rw [hg.block bd (lt_of_heap hb4) (fun e => by
            obtain ⟨_, _, cur, fz, hh⟩ := hb5.block e.symm
            rw [hb4] at hh; injection hh with hh; injection hh with _ e2 _; revert e2; decide)]
          exact hb4
        have c6 : w'.cell? ⟨bd, 2, none⟩ = some wv4 := by rw [cell_of_row _ _ _ _ _ _ hb6]; rfl
        have f6 := frozen_of_row w' bd 2 _ _ hb6
        have hfin := HD3.out.put hc3 hg ho (fun p hp => by
          have hn : (actD d).n = d.n := by unfold DskS.n; rw [(actD_same d).1]
          rw [hn]
          rcases List.mem_append.1 hp with hp | hp
          · have := HD2.out.ok.wait p (by rw [(actD_same d).2.1]; exact hp)
            rwa [hn] at this
          · rw [List.mem_singleton.1 hp]; exact ⟨HKN.out, hl⟩)
        have HFIN := Lib.hid hfin
        clear hb4 hb5 hb6 hc3 hg ho hfin
        go_wp2_with fail
        refine NoPanic.normal ?_
        go_wp2_with fail
        go_ret
        exact ⟨⟨.nilIface, rfl, by rw [← HC.out]; exact .inl ⟨rfl, rfl⟩⟩, by rw [← HW.out]; exact HFIN.out.1, HK3.out.trans HFIN.out.2⟩
    · have g1 : ((s.length : Int) != 64) = true := by simp; omega
      rw [if_pos hl] at HC
      rw [if_pos (.inr hl)] at HW
      go_wp2_with fail
      refine (HF.out 1 _ (by decide)).mono ?_
      rintro e w3 ⟨⟨v, rfl, hv⟩, hq⟩
      have HD3 := Lib.hid (HD1.out.q hq)
      go_wp2_with fail
      go_ret
      exact ⟨⟨v, rfl, by rw [← HC.out]; exact hv⟩, by rw [← HW.out]; exact HD3.out, K.q (hq1.trans hq)⟩
  · rw [if_pos hc] at HC
    rw [if_pos (.inl hc)] at HW
    go_wp2_with fail
    go_ret
    exact ⟨⟨_, rfl, by rw [← HC.out]; exact .inr ⟨hc, b, rfl, hf⟩⟩, by rw [← HW.out]; exact HD1.out, K.q hq1⟩
end Go.Proofs.YtjbdjkpbkjkdpaaDoor
/- The disk's sector, Flush, Read. -/
set_option linter.unusedVariables false
set_option linter.unusedSimpArgs false
namespace Go.Proofs.YtjbdjkpbkjkdpaaDoor
open Go Go.RowKit
theorem sector_any {w0 w : World} {bd bp gh : Nat} {d : DskS} (k : Nat) (h : DAt w0 w bd bp gh d) (hk : k < d.n) :
    Calls Tryd.prog 42 #[.pointer (some ⟨bd, 0, none⟩), .int .i64 (k : Int)] w fun e w' => e = .returned (.slice (some ⟨gh, k * 64, none⟩) 64 (d.has.length - k * 64)) ∧ w = w' := by
  have c1 := h.has_cell
  have h1 := h.ok.len
  have h2 := h.ok.most
  obtain ⟨n, hn⟩ : ∃ n, d.has.length = n := ⟨_, rfl⟩
  rw [hn] at c1 h1 ⊢
  have a1 : k * 64 + 64 ≤ n := by omega
  have a2 : n ≤ 524288 := by omega
  have a3 : (k : Int) * 64 ≤ ((k : Int) + 1) * 64 := by omega
  have a4 : ((k : Int) + 1) * 64 ≤ (n : Int) := by omega
  have e1 : (((k : Int) + 1) * 64 - (k : Int) * 64).toNat = 64 := by omega
  have e2 : ((k : Int) * 64).toNat = k * 64 := by omega
  clear h h1 h2 hn hk
  go_enter Tryd.func42, Tryd.ntmps42
  go_wp2_with fail
  rw [show (k + 1) * 64 - k * 64 = 64 by omega]
  go_ret
  exact ⟨rfl, rfl⟩
/-- A sector laid onto an image; what a disk reads as, its pending writes among it. -/
def putS (im : List UInt8) (k : Nat) (s : List UInt8) : List UInt8 := im.take (k * 64) ++ s ++ im.drop (k * 64 + s.length)
def curL (im : List UInt8) (l : List (Nat × List UInt8)) : List UInt8 := l.foldl (fun im p => putS im p.1 p.2) im
def DskS.cur (d : DskS) : List UInt8 := curL d.has d.wait
theorem putS_len {im : List UInt8} {k : Nat} {s : List UInt8} (h : k * 64 + s.length ≤ im.length) : (putS im k s).length = im.length := by
  simp only [putS, List.length_append, List.length_take, List.length_drop]; omega
theorem curL_len {n : Nat} (l : List (Nat × List UInt8)) : ∀ (im : List UInt8), im.length = 64 * n → (∀ p ∈ l, p.1 < n ∧ p.2.length = 64) → (curL im l).length = im.length := by
  induction l with
  | nil => intro im _ _; rfl
  | cons p r ih =>
    intro im h hl
    have hp := hl p (by simp)
    have h1 : (putS im p.1 p.2).length = im.length := putS_len (by omega)
    have := ih (putS im p.1 p.2) (by omega) (fun q hq => hl q (by simp [hq]))
    simpa [curL, h1] using this
/-- The disk's bytes written anew. -/
theorem DAt.fill {w0 w : World} {bd bp gh : Nat} {d : DskS} (h : DAt w0 w bd bp gh d) (b : List UInt8) (hb : b.length = d.has.length) : DAt w0 (w.setRow gh (arrB b)) bd bp gh { d with has := b } ∧ K w0 [] w (w.setRow gh (arrB b)) := by
  obtain ⟨wv, life, h1, h2⟩ := h.box
  obtain ⟨acts, h3, h4⟩ := h.pow
  have hm := h.mem
  have keep : ∀ {k : Nat} {cs : Array Value} {t : TypeId} {fz : Nat × Nat}, w.heap[k]? = some (.cells cs t fz) → t ≠ 5 → (w.setRow gh (arrB b)).heap[k]? = some (.cells cs t fz) := fun {k cs t fz} hk hd => by
    rw [setRow_other _ _ k _ (fun e => by subst e; rw [hm] at hk; injection hk with hk; injection hk with _ e2 _; exact hd e2.symm)]; exact hk
  refine ⟨⟨⟨wv, life, ?_, h2.g (gb_setRow w gh _) (fun k hk e => ?_)⟩, ⟨acts, keep h3 (by decide), h4⟩, setRow_heap w _ _ _ _ _ hm, h.nd, h.np, h.nh, ?_⟩, K.gb (gb_setRow w gh _) h.nh (.inr (by rw [elemT_of hm]; decide))⟩
  · rw [hb]; exact keep h1 (by decide)
  · injection e with e; subst e
    obtain ⟨_, _, cur, fz, hh⟩ := h2.block hk
    rw [hm] at hh; injection hh with hh; injection hh with _ e2 _; revert e2; decide
  · have hn : DskS.n { d with has := b } = d.n := by unfold DskS.n; rw [hb]
    exact ⟨by rw [hn]; rw [hb]; exact h.ok.len, by rw [hn]; exact h.ok.most, h.ok.fuse, by rw [hn]; exact h.ok.wait⟩
theorem DAt.ne {w0 w : World} {bd bp gh : Nat} {d : DskS} (h : DAt w0 w bd bp gh d) : bd ≠ gh := fun e => by
  obtain ⟨wv, life, h1, h2⟩ := h.box
  have hm := h.mem
  subst e
  rw [h1] at hm; injection hm with hm; injection hm with _ e2 _; revert e2; decide
/-- The pending writes, by the slice that the disk's block holds. -/
theorem DAt.late {w0 w : World} {bd bp gh : Nat} {d : DskS} (h : DAt w0 w bd bp gh d) {A : Option Addr} {n cp : Nat} (hc : w.cell? ⟨bd, 2, none⟩ = some (.slice A n cp)) :
    ∀ j (hj : j < d.wait.length), ∃ g, A = some ⟨g, 0, none⟩ ∧ w.cell? ⟨g, j * 2, none⟩ = some (.int .i64 ((d.wait[j].1 : Nat) : Int)) ∧ w.cell? ⟨g, j * 2 + 1, none⟩ = some (.string ⟨d.wait[j].2.toArray⟩) := by
  obtain ⟨wv, life, h1, h2⟩ := h.box
  obtain ⟨A', cp', hv, _, hat⟩ := h2.at
  subst hv
  have : w.cell? ⟨bd, 2, none⟩ = some (.slice A' d.wait.length cp') := by rw [cell_of_row _ _ _ _ _ _ h1]; rfl
  rw [hc] at this
  injection this with e
  injection e with e1 e2 e3
  subst e1
  exact hat
theorem lateL_one (p : Nat × List UInt8) : (lateL p).toArray.all (·.oneCell') = true := by rw [List.all_toArray]; rfl
theorem curL_snoc (im : List UInt8) (l : List (Nat × List UInt8)) (k : Nat) (hk : k < l.length) : curL im (l.take (k + 1)) = putS (curL im (l.take k)) l[k].1 l[k].2 := by
  unfold curL
  rw [List.take_succ_eq_append_getElem hk, List.foldl_append]; rfl
/-- A pending write in a box. -/
def LateAt (w : World) (b : Nat) (p : Nat × List UInt8) : Prop := w.heap[b]? = some (.cells (lateL p).toArray 76 (0, 0))
theorem LateAt.q {w w' : World} {b : Nat} {p : Nat × List UInt8} (h : LateAt w b p) (hq : Q w w') : LateAt w' b p := hq.block h
theorem LateAt.make (w : World) (p : Nat × List UInt8) : LateAt ((w.alloc (.cells (lateL (0, [])).toArray 76)).setRow w.heap.size (lateL p).toArray) w.heap.size p ∧ Q w ((w.alloc (.cells (lateL (0, [])).toArray 76)).setRow w.heap.size (lateL p).toArray) :=
  ⟨setRow_heap _ _ _ _ _ _ (MapKept.heap_alloc w _).1, Q.setRow ((Q.refl _).alloc _) (Nat.le_refl _) _⟩
theorem LateAt.c0 {w : World} {b : Nat} {p : Nat × List UInt8} (h : LateAt w b p) : w.cell? ⟨b, 0, none⟩ = some (.int .i64 (p.1 : Int)) := by rw [cell_of_row _ _ _ _ _ _ h]; rfl
theorem LateAt.c1 {w : World} {b : Nat} {p : Nat × List UInt8} (h : LateAt w b p) : w.cell? ⟨b, 1, none⟩ = some (.string ⟨p.2.toArray⟩) := by rw [cell_of_row _ _ _ _ _ _ h]; rfl
def flushC (d : DskS) : Int := if readyC d 0 ≠ 0 then readyC d 0 else if d.fuse = 0 then 10 else 0
def flushD (d : DskS) : DskS := if readyC d 0 ≠ 0 then d else if d.fuse = 0 then actD d else { actD d with has := d.cur, wait := [] }
theorem cells_put (im : List UInt8) (k : Nat) (s : List UInt8) (h : k * 64 + s.length ≤ im.length) : ((arrB im).toList.take (k * 64) ++ Lib.byteCells s ++ (arrB im).toList.drop (k * 64 + s.length)).toArray = arrB (putS im k s) := by
  unfold arrB putS
  congr 1
  simp only [List.map_append, List.map_take, List.map_drop]
  rfl
set_option maxRecDepth 100000 in
set_option maxHeartbeats 4000000 in
theorem Flush_any {w0 w : World} {bd bp gh : Nat} {d : DskS} (h : DAt w0 w bd bp gh d) (hw : d.wait.length ≤ 1000000) (h0 : w0.heap.size ≤ w.heap.size) :
    Calls Tryd.prog 60 #[.pointer (some ⟨bd, 0, none⟩)] w fun e w' => (∃ v, e = .returned v ∧ ErrIs w' v (flushC d) 0) ∧ DAt w0 w' bd bp gh (flushD d) ∧ K w0 [] w w' := by
  have HD := Lib.hid h
  have HF := Lib.hid dfault_any
  have HR := Lib.hid (ready_any 0 h)
  obtain ⟨rc, hrc⟩ : ∃ rc, readyC d 0 = rc := ⟨_, rfl⟩
  obtain ⟨C, hC⟩ : ∃ C, flushC d = C := ⟨_, rfl⟩
  obtain ⟨D, hD⟩ : ∃ C, flushD d = C := ⟨_, rfl⟩
  have HC := Lib.hid hC
  have HW := Lib.hid hD
  rw [hC, hD]
  unfold flushC at HC
  unfold flushD at HW
  rw [hrc] at HR HC HW
  clear h hrc hC hD
  go_enter Tryd.func60, Tryd.ntmps60
  go_wp2_with fail
  refine HR.out.mono ?_
  rintro e w1 ⟨⟨v1, rfl, hv1⟩, hq1⟩
  have HD1 := Lib.hid (HD.out.q hq1)
  rcases hv1 with ⟨hc, rfl⟩ | ⟨hc, b, rfl, hf⟩
  · subst hc
    rw [if_neg (by simp)] at HC
    rw [if_neg (by simp)] at HW
    have c0 := HD1.out.bp_cell
    go_wp2_with fail
    refine (act_any HD1.out).mono ?_
    rintro e w2 ⟨rfl, hd2, hk2⟩
    have HD2 := Lib.hid hd2
    have HK2 := Lib.hid ((K.q (w0 := w0) (S := []) hq1).trans hk2)
    clear hd2 hk2 hq1 c0
    by_cases hz : d.fuse = 0
    · rw [if_pos hz] at HC HW
      rw [show decide (d.fuse ≠ 0) = false by simpa using hz]
      go_wp2_with fail
      refine (HF.out 10 _ (by decide)).mono ?_
      rintro e w3 ⟨⟨v, rfl, hv⟩, hq⟩
      have HD3 := Lib.hid (HD2.out.q hq)
      have HK3 := Lib.hid (HK2.out.trans (K.q hq))
      go_wp2_with fail
      go_ret
      exact ⟨⟨v, rfl, by rw [← HC.out]; exact hv⟩, by rw [← HW.out]; exact HD3.out, HK3.out⟩
    · rw [if_neg hz] at HC HW
      rw [show decide (d.fuse ≠ 0) = true by simpa using hz]
      obtain ⟨wv, life, hb1, hb2⟩ := HD2.out.box
      have c2 : w2.cell? ⟨bd, 2, none⟩ = some wv := by rw [cell_of_row _ _ _ _ _ _ hb1]; rfl
      rw [(actD_same d).2.1] at hb2
      obtain ⟨A, cp, hv, hlc, hat⟩ := hb2.at
      subst hv
      obtain ⟨m, hm⟩ : ∃ m, m = d.wait.length := ⟨_, rfl⟩
      rw [← hm] at c2 hlc hw
      have HM := Lib.hid hm
      have HC2 := Lib.hid c2
      have HAT := Lib.hid hat
      have hmi : (m : Int) ≤ 1000000 := by omega
      clear hb1 hb2 hat hm hlc
      go_wp2_with fail
      clear c2
      go_loopw [23] (fun i wr => ∃ k : Nat, k ≤ m ∧ i = .int .i64 (k : Int) ∧ Hid (DAt w0 wr bd bp gh { actD d with has := curL d.has (d.wait.take k) }) ∧ Hid (wr.cell? ⟨bd, 2, none⟩ = some (.slice A m cp)) ∧ Hid (K w0 [] w wr)) (fun i _ => m - (intOf i).toNat)
      case atStart => exact ⟨0, by omega, rfl, by have := HD2.out; rw [List.take_zero]; rw [show curL d.has [] = (actD d).has from ((actD_same d).1).symm]; exact this, HC2.out, HK2.out⟩
      case round =>
        clear HC2 HD2 HK2
        obtain ⟨k, hk, rfl, HDr, HCr, HKr⟩ := hrel
        by_cases hlt : k < m
        · have g1 : decide (k < m) = true := by simpa using hlt
          have hkl : k < d.wait.length := by rw [← HM.out]; exact hlt
          have hok := HD.out.ok.wait _ (List.getElem_mem hkl)
          have hls : (curL d.has (d.wait.take k)).length = d.has.length := curL_len _ _ HD.out.ok.len (fun q hq => HD.out.ok.wait q (List.mem_of_mem_take hq))
          obtain ⟨g, rfl, e0, e1⟩ := HDr.out.late HCr.out k (by rw [(actD_same d).2.1]; exact hkl)
          have hsn := curL_snoc d.has d.wait k hkl
          have hgk : (actD d).wait[k]'(by rw [(actD_same d).2.1]; exact hkl) = d.wait[k] := by congr 1; exact (actD_same d).2.1
          rw [hgk] at e0 e1
          obtain ⟨⟨at_, s⟩, hp⟩ : ∃ p, d.wait[k] = p := ⟨_, rfl⟩
          rw [hp] at e0 e1 hok hsn
          simp only at e0 e1 hok hsn
          have HSN := Lib.hid hsn
          have HOK := Lib.hid hok
          have HLS := Lib.hid hls
          have hs64 : s.length = 64 := hok.2
          clear hp hgk hsn hok hls
          obtain ⟨hb5, hq5⟩ := LateAt.make wr (at_, s)
          have hbn : (wr.alloc (.cells (lateL (0, [])).toArray 76)).heap[wr.heap.size]? = some (.cells (lateL (0, [])).toArray 76 (0, 0)) := (MapKept.heap_alloc wr _).1
          obtain ⟨N5, hN5⟩ : ∃ G, wr.heap.size = G := ⟨_, rfl⟩
          rw [hN5] at hb5 hq5 hbn
          obtain ⟨W4, hW4⟩ : ∃ W, wr.alloc (.cells (lateL (0, [])).toArray 76) = W := ⟨_, rfl⟩
          rw [hW4] at hb5 hq5 hbn
          have hW4b : wr.alloc (.cells #[.int .i64 0, .string ⟨#[]⟩] 76) = W4 := hW4
          clear hW4
          go_upto_region 9 with (refine wpList_store_row rfl 76 _ _ rfl N5 (lateL (at_, s)).toArray (by rfl) (by rfl) 76 _ hbn infoL rfl (lateL_one _) ?_)
          obtain ⟨W5, hW5⟩ : ∃ W, W4.setRow N5 (lateL (at_, s)).toArray = W := ⟨_, rfl⟩
          rw [hW5] at hb5 hq5 ⊢
          have HD5 := Lib.hid (HDr.out.q hq5)
          have HC5 := Lib.hid (hq5.cell HCr.out)
          have HK5 := Lib.hid (HKr.out.trans (K.q hq5))
          have k0 : ∀ m : QW W5, m.val.cell? ⟨N5, 0, none⟩ = some (.int .i64 (at_ : Int)) := fun m => m.cell hb5.c0
          have k1 : ∀ m : QW W5, m.val.cell? ⟨N5, 1, none⟩ = some (.string ⟨s.toArray⟩) := fun m => m.cell hb5.c1
          have hatn : at_ < DskS.n { actD d with has := curL d.has (d.wait.take k) } := by unfold DskS.n; simp only; rw [HLS.out]; exact HOK.out.1
          have HSC := Lib.hid (fun m : QW W5 => (sector_any at_ (HD5.out.q m.le) hatn : Calls Tryd.prog 42 #[.pointer (some ⟨bd, 0, none⟩), .int .i64 (at_ : Int)] m.val fun e w' => e = .returned (.slice (some ⟨gh, at_ * 64, none⟩) 64 ((curL d.has (d.wait.take k)).length - at_ * 64)) ∧ m.val = w'))
          clear hbn hN5 hW4b hW5 hb5 hq5 e0 e1 HDr HCr HKr hatn
          refine wp_region_q_tail 6 (by kernel_rfl) (by kernel_rfl) ?_
          simp only [List.take_succ_cons, List.take_zero, List.drop_succ_cons, List.drop_zero, Act.put]
          (repeat (go_big_quiet_step ((go_at_call 42; exact calls_qs (HSC.out _)))))
          refine wpQuiet_nil ?_
          rintro wa ⟨ma, hma⟩
          have hqa : Q W5 wa := by rw [hma]; exact ma.le
          have HD6 := Lib.hid (HD5.out.q hqa)
          have hc6 := hqa.cell HC5.out
          have HK6 := Lib.hid (HK5.out.trans (K.q hqa))
          clear hma ma hqa k0 k1 HSC HD5 HC5 HK5
          have hfit : at_ * 64 + s.length ≤ (curL d.has (d.wait.take k)).length := by
            rw [HLS.out, HD.out.ok.len]; have := HOK.out.1; omega
          have hfill := HD6.out.fill (putS (curL d.has (d.wait.take k)) at_ s) (putS_len hfit)
          have hcp := cells_put (curL d.has (d.wait.take k)) at_ s hfit
          have hc7 : (wa.setRow gh (arrB (putS (curL d.has (d.wait.take k)) at_ s))).cell? ⟨bd, 2, none⟩ = some (.slice (some ⟨g, 0, none⟩) m cp) := by
            unfold World.cell? at hc6 ⊢
            rw [setRow_other _ _ bd _ HD6.out.ne]; exact hc6
          have HFILL := Lib.hid hfill
          have HC7 := Lib.hid hc7
          clear hfill hc6 hc7
          refine wpList_copy_str rfl (.tmp 30) (.tmp 32) 69 9 5 rfl Tryd.underlying69 (by kernel_rfl) gh (at_ * 64) 64 _ (by rfl) s (by rfl) (arrB (curL d.has (d.wait.take k))) 5 HD6.out.mem s (List.take_of_length_le (by omega)) (by simpa [arrB] using hfit) ?_
          rw [hcp]
          clear hcp hfit
          rw [← HSN.out] at HFILL HC7 ⊢
          go_wp2_with fail
          go_roundw
          case rel => exact ⟨k + 1, hlt, by go_num, HFILL.out.1, HC7.out, HK6.out.trans HFILL.out.2⟩
          case measure => simp [intOf]; omega
        · have g1 : decide (k < m) = false := by simpa using hlt
          obtain rfl : k = m := by omega
          have hcur : curL d.has (d.wait.take k) = d.cur := by rw [HM.out, List.take_length]; rfl
          rw [hcur] at HDr
          have hfin := HDr.out.put HCr.out (w' := wr) (by
            exact (Q.refl wr).gb _) (OwnW.nil w0 wr) (by intro p hp; cases hp)
          have HFIN := Lib.hid hfin
          have c2 := HCr.out
          have f2 : wr.frozen? ⟨bd, 2, none⟩ = false := by
            obtain ⟨wv, life, h1, _⟩ := HDr.out.box
            exact frozen_of_row wr bd 2 _ _ h1
          clear hfin hcur hlt
          go_wp2_with fail
          go_ret
          exact ⟨⟨.nilIface, rfl, by rw [← HC.out]; exact .inl ⟨rfl, rfl⟩⟩, by rw [← HW.out]; exact HFIN.out.1, HKr.out.trans HFIN.out.2⟩
  · rw [if_pos hc] at HC HW
    go_wp2_with fail
    go_ret
    exact ⟨⟨_, rfl, by rw [← HC.out]; exact .inr ⟨hc, b, rfl, hf⟩⟩, by rw [← HW.out]; exact HD1.out, K.q hq1⟩
end Go.Proofs.YtjbdjkpbkjkdpaaDoor
/- The disk's Read, New, NewPower. -/
set_option linter.unusedVariables false
set_option linter.unusedSimpArgs false
namespace Go.Proofs.YtjbdjkpbkjkdpaaDoor
open Go Go.RowKit
/-- What a sector reads as. -/
def readL (d : DskS) (k : Nat) : List UInt8 := match d.wait.reverse.find? (fun p => p.1 == k) with | some p => p.2 | none => sub d.has (k * 64) (k * 64 + 64)
theorem find_last {l : List (Nat × List UInt8)} {k j : Nat} (hj : j < l.length) (hn : ∀ q, j < q → ∀ hq : q < l.length, (l[q]).1 ≠ k) (he : (l[j]).1 = k) : l.reverse.find? (fun p => p.1 == k) = some l[j] := by
  rw [List.find?_eq_some_iff_getElem]
  refine ⟨by simpa using he, l.length - 1 - j, by simp; omega, ?_, fun i hi => ?_⟩
  · rw [List.getElem_reverse]; congr 1; omega
  · rw [List.getElem_reverse]
    have := hn (l.length - 1 - i) (by omega) (by omega)
    simpa using this
theorem find_none {l : List (Nat × List UInt8)} {k : Nat} (hn : ∀ q, ∀ hq : q < l.length, (l[q]).1 ≠ k) : l.reverse.find? (fun p => p.1 == k) = none := by
  rw [List.find?_eq_none]
  intro p hp
  obtain ⟨q, hq, rfl⟩ := List.getElem_of_mem (List.mem_reverse.1 hp)
  simpa using hn q hq
def readD (d : DskS) (i : Int) : List UInt8 := if readyC d i = 0 then readL d i.toNat else []
theorem conv_at {w : World} {gh off n cap : Nat} {b : List UInt8} (h : w.heap[gh]? = some (.cells (arrB b) 5 (0, 0))) (hn : off + n ≤ b.length) :
    (convert 69 9 (.slice (some ⟨gh, off, none⟩) n cap)).run Tryd.prog w = .ok (.string ⟨(sub b off (off + n)).toArray⟩) w := by
  have hl : (sub b off (off + n)).length = n := by rw [length_sub]; omega
  have := run_convert_bytes_back (P := Tryd.prog) w 69 9 5 ⟨gh, off, none⟩ cap (sub b off (off + n)) Tryd.underlying69 Tryd.underlying5 Tryd.underlying9 (fun i hi => by
    rw [add_off, cell_of_row w gh (off + i) _ _ _ h]
    have hi' : off + i < b.length := by rw [hl] at hi; omega
    have hi2 : i < n := by rw [hl] at hi; exact hi
    simp [arrB, u8V, sub, hi', List.getElem?_take, hi2])
  rw [hl] at this
  exact this
set_option maxRecDepth 100000 in
set_option maxHeartbeats 4000000 in
theorem Read_any {w0 w : World} {bd bp gh : Nat} {d : DskS} (i : Int) (h : DAt w0 w bd bp gh d) (hw : d.wait.length ≤ 1000000) :
    Calls Tryd.prog 61 #[.pointer (some ⟨bd, 0, none⟩), .int .i64 i] w fun e w' => (∃ v, e = .returned (.tuple #[.string ⟨(readD d i).toArray⟩, v]) ∧ ErrIs w' v (readyC d i) 0) ∧ Q w w' := by
  have HD := Lib.hid h
  have HR := Lib.hid (ready_any i h)
  have HLT := Lib.hid (ready_lt (d := d) (i := i))
  obtain ⟨rc, hrc⟩ : ∃ rc, readyC d i = rc := ⟨_, rfl⟩
  obtain ⟨D, hD⟩ : ∃ C, readD d i = C := ⟨_, rfl⟩
  have HW := Lib.hid hD
  rw [hD]
  unfold readD at HW
  rw [hrc] at HR HW HLT ⊢
  clear h hrc hD
  go_enter Tryd.func61, Tryd.ntmps61
  go_wp2_with fail
  refine HR.out.mono ?_
  rintro e w1 ⟨⟨v1, rfl, hv1⟩, hq1⟩
  have HD1 := Lib.hid (HD.out.q hq1)
  have HQ1 := Lib.hid hq1
  rcases hv1 with ⟨hc, rfl⟩ | ⟨hc, b, rfl, hf⟩
  · subst hc
    rw [if_pos rfl] at HW
    obtain ⟨k, rfl⟩ : ∃ k : Nat, i = (k : Int) := ⟨i.toNat, by have := HLT.out rfl; omega⟩
    have HKN : Hid (k < d.n) := Lib.hid (by have := HLT.out rfl; omega)
    rw [Int.toNat_natCast] at HW
    obtain ⟨wv, life, hb1, hb2⟩ := HD1.out.box
    have c2 : w1.cell? ⟨bd, 2, none⟩ = some wv := by rw [cell_of_row _ _ _ _ _ _ hb1]; rfl
    obtain ⟨A, cp, hv, hlc, hat⟩ := hb2.at
    subst hv
    obtain ⟨m, hm⟩ : ∃ m, m = d.wait.length := ⟨_, rfl⟩
    rw [← hm] at c2 hlc hw
    have HM := Lib.hid hm
    have HAT := Lib.hid hat
    have HC1 := Lib.hid c2
    have hmi : (m : Int) ≤ 1000000 := by omega
    clear hb1 hb2 hat hm hlc hq1
    go_wp2_with fail
    clear c2
    go_loopw [7] (fun i wr => ∃ j : Nat, j ≤ m ∧ i = .int .i64 ((j : Int) - 1) ∧ Hid (∀ q, j ≤ q → ∀ hq : q < d.wait.length, (d.wait[q]).1 ≠ k) ∧ Hid (Q w1 wr)) (fun i _ => (intOf i + 1).toNat)
    case atStart => exact ⟨m, by omega, by rfl, fun q h1 h2 => absurd h2 (by have := HM.out; omega), Q.refl _⟩
    case round =>
      obtain ⟨j, hj, rfl, HN, HQ⟩ := hrel
      have hcr := HQ.out.cell HC1.out
      cases j with
      | zero =>
        rw [show (((0 : Nat) : Int) - 1) = -1 from rfl]
        have g1 : decide ((0 : Int) ≤ -1) = false := by decide
        have hrd : readL d k = sub d.has (k * 64) (k * 64 + 64) := by
          unfold readL
          rw [find_none (fun q hq => HN.out q (by omega) hq)]
        have HDr := Lib.hid (HD1.out.q HQ.out)
        have hfit : k * 64 + 64 ≤ d.has.length := by rw [HD.out.ok.len]; have := HKN.out; omega
        have hcv : (convert 69 9 (.slice (some ⟨gh, k * 64, none⟩) 64 (d.has.length - k * 64))).run Tryd.prog wr = .ok (.string ⟨(sub d.has (k * 64) (k * 64 + 64)).toArray⟩) wr := conv_at HDr.out.mem hfit
        have HRD := Lib.hid hrd
        clear hcr hrd hfit
        go_wp2_with fail
        refine (sector_any k HDr.out HKN.out).mono ?_
        rintro e w5 ⟨rfl, rfl⟩
        go_wp2_with fail
        go_ret2
        exact ⟨⟨_, by rw [← HW.out, HRD.out]; rfl, .inl ⟨rfl, rfl⟩⟩, HQ1.out.trans HQ.out⟩
      | succ j =>
        rw [show (((j + 1 : Nat) : Int) - 1) = (j : Int) by omega]
        have g1 : decide ((0 : Int) ≤ (j : Int)) = true := by simp
        have hjm : j < m := hj
        have hjl : j < d.wait.length := by rw [← HM.out]; exact hj
        have hji : (j : Int) < (m : Int) := by omega
        obtain ⟨g, rfl, e0, e1⟩ := HAT.out j hjl
        have e0 := HQ.out.cell e0
        have e1 := HQ.out.cell e1
        have HPJ : Hid (∃ p, d.wait[j] = p) := ⟨_, rfl⟩
        obtain ⟨⟨a, s⟩, hp⟩ := HPJ.out
        rw [hp] at e0 e1
        simp only at e0 e1
        have HP := Lib.hid hp
        clear hp
        by_cases hak : a = k
        · subst hak
          have g2 : ((a : Int) == (a : Int)) = true := by simp
          have hrd : readL d a = s := by
            unfold readL
            rw [find_last hjl (fun q h1 hq => HN.out q h1 hq) (by rw [HP.out]), HP.out]
          have HRD := Lib.hid hrd
          clear hrd
          go_wp2_with fail
          go_ret2
          exact ⟨⟨_, by rw [← HW.out, HRD.out]; rfl, .inl ⟨rfl, rfl⟩⟩, HQ1.out.trans HQ.out⟩
        · have g2 : ((a : Int) == (k : Int)) = false := by simp; omega
          have HN2 : Hid (∀ q, j ≤ q → ∀ hq : q < d.wait.length, (d.wait[q]).1 ≠ k) := Lib.hid (fun q h1 hq => by
            by_cases e : q = j
            · subst e; rw [HP.out]; exact hak
            · exact HN.out q (by omega) hq)
          clear hak
          go_wp2_with fail
          go_roundw
          case rel => exact ⟨j, by omega, by go_num, HN2.out, HQ.out⟩
          case measure => simp [intOf]
  · rw [if_neg hc] at HW
    go_wp2_with fail
    go_ret2
    exact ⟨⟨_, by rw [← HW.out]; rfl, .inr ⟨hc, b, rfl, hf⟩⟩, HQ1.out⟩
end Go.Proofs.YtjbdjkpbkjkdpaaDoor
