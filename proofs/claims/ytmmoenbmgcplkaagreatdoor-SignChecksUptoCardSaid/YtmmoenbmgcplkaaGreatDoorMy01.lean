/- Texts of this proof, laid into one: Base, Gx, Gy, Byt, Strs, UrA, UrB. -/
import Derived.Test.YtmmoenbmgcplkaaGreatDoorProg
import Derived.WalkKit
import Derived.Lib.Hide
import Derived.BigQuiet
import Derived.Laws.IdiomStrings
import Derived.Laws.Rows
import Derived.Maps.AppendAt
import Derived.Lib.BufferRead
import Derived.Test.YtmmoenbmgcplkaaGreatDoorShelf
import Derived.Deep.RegionWith
namespace Go.Proofs.YtmmoenbmgcplkaaGreatDoor
open Go Go.RowKit
def Q (w w' : World) : Prop := Below w.heap.size w w'
theorem Q.refl (w : World) : Q w w := Below.refl _ _
theorem Q.trans {a b c : World} (h : Q a b) (k : Q b c) : Q a c := Below.trans h (Below.mono k h.size)
theorem Q.drew {a b : World} (h : Q a b) : Q a b.drew := Below.drew h
theorem Q.drewN {a b : World} (h : Q a b) (n : Nat) : Q a (b.drewN n) := ⟨h.os, h.tape, h.output, h.size, h.block⟩
theorem Q.alloc {a b : World} (h : Q a b) (o : Obj) : Q a (b.alloc o) := Below.alloc h h.size o
theorem Q.setNew {a b : World} (h : Q a b) {p : Addr} (hp : a.heap.size ≤ p.block) (v : Value) : Q a (b.setCell p v) := Below.setCell h hp v
theorem Q.below {a b c : World} (h : Q a b) (k : Below a.heap.size b c) : Q a c := Below.trans h k
theorem Q.size {a b : World} (h : Q a b) : a.heap.size ≤ b.heap.size := Below.size h
theorem lt_of_cell {w : World} {a : Addr} {v : Value} (h : w.cell? a = some v) : a.block < w.heap.size := by
  unfold World.cell? at h
  rcases Nat.lt_or_ge a.block w.heap.size with h1 | h1
  · exact h1
  · rw [Array.getElem?_eq_none h1] at h; cases h
theorem Q.cell {a b : World} (h : Q a b) {p : Addr} {v : Value} (hp : a.cell? p = some v) : b.cell? p = some v := (Below.cell h (lt_of_cell hp)).trans hp
theorem Q.block {a b : World} (h : Q a b) {k : Nat} {o : Obj} (hp : a.heap[k]? = some o) : b.heap[k]? = some o := by
  rcases Nat.lt_or_ge k a.heap.size with h1 | h1
  · exact (Below.block h k h1).trans hp
  · rw [Array.getElem?_eq_none h1] at hp; cases hp
structure QW (w : World) where
  val : World
  le : Q w val
instance (w : World) : Nonempty (QW w) := ⟨⟨w, Q.refl w⟩⟩
theorem QW.cell {w : World} (m : QW w) {p : Addr} {v : Value} (hp : w.cell? p = some v) : m.val.cell? p = some v := m.le.cell hp
@[go_sem, simp] theorem QW.same {w : World} {x v : Value} : (∀ m : QW w, m.val = m.val ∧ x = v) ↔ x = v := by
  constructor
  · intro h; exact (h ⟨w, Q.refl w⟩).2
  · intro h m; exact ⟨rfl, h⟩
theorem wp_region_q {P : Program} {id : Nat} {R : Exit → Act → World → Prop} {a : Act} {w : World} {l : List Oper} (hm : P.follows .mixedOrders = true) (hB : Region.lexB .any l.toArray = true)
    (h : wpQuiet P l.toArray (fun w' => ∃ m : QW w, w' = m.val) (fun a' => ∀ w', (∃ m : QW w, w' = m.val) → R .normal a' w') l a) : (Code.region id l.toArray true).wp P R a w :=
  wp_region_quiet (C := fun w' => ∃ m : QW w, w' = m.val) hm hB ⟨⟨w.drew, (Q.refl w).drew⟩, rfl⟩ (by simpa using h)
theorem calls_q {P : Program} {f : FuncId} {args : Array Value} {w : World} {m : QW w} {v : Value}
    (h : Calls P f args m.val fun e w' => e = .returned v ∧ Q m.val w') : Calls P f args m.val fun e w'' => e = .returned v ∧ ∃ k : QW w, w'' = k.val :=
  h.mono fun _ w' ⟨he, hq⟩ => ⟨he, ⟨w', m.le.trans hq⟩, rfl⟩
theorem calls_qs {P : Program} {f : FuncId} {args : Array Value} {w : World} {m : QW w} {v : Value}
    (h : Calls P f args m.val fun e w' => e = .returned v ∧ m.val = w') : Calls P f args m.val fun e w'' => e = .returned v ∧ ∃ k : QW w, w'' = k.val :=
  h.mono fun _ _ ⟨he, hq⟩ => ⟨he, m, hq.symm⟩
theorem ret_int {k : IntKind} {a b : Int} (h : a = b) : Ending.returned (.int k a) = .returned (.int k b) := by rw [h]
def byteOf (n : Int) : UInt8 := UInt8.ofNat n.toNat
theorem byteOf_int (n : Int) (h0 : 0 ≤ n) (h1 : n < 256) : ((byteOf n).toNat : Int) = n := by
  unfold byteOf; simp; omega
def gB (l : List UInt8) (i : Nat) : UInt8 := l.getD i 0
def sub (l : List UInt8) (i j : Nat) : List UInt8 := (l.take j).drop i
@[go_sem] theorem length_sub (l : List UInt8) (i j : Nat) : (sub l i j).length = min j l.length - i := by
  simp [sub]
section
variable {P : Program} (w : World)
@[go_sem 2000] theorem run_index_list (t : TypeId) (l : List UInt8) (k : IntKind) (i : Int) (h : P.underlying t = some .string) :
    (Instr.index t (.string ⟨l.toArray⟩) (.int k i)).run P w =
      if 0 ≤ i ∧ i < l.length then .ok (.int .u8 ((gB l i.toNat).toNat : Int)) w else (boundsPanic k i l.length .index).run P w := by
  rw [run_index_string w t ⟨l.toArray⟩ k i h]
  have hs : (ByteArray.mk l.toArray).size = l.length := rfl
  by_cases hi : 0 ≤ i ∧ i < l.length
  · have hi' : 0 ≤ i ∧ i < ((ByteArray.mk l.toArray).size : Int) := hi
    rw [dif_pos hi', if_pos hi]
    have h2 : i.toNat < l.length := by omega
    have e : gB l i.toNat = l[i.toNat] := by unfold gB; simp [List.getD, h2]
    rw [e]; rfl
  · have hi' : ¬ (0 ≤ i ∧ i < ((ByteArray.mk l.toArray).size : Int)) := hi
    rw [dif_neg hi', if_neg hi]; rfl
theorem extract_list (l : List UInt8) (i j : Nat) : (ByteArray.mk l.toArray).extract i j = ⟨(sub l i j).toArray⟩ := by
  apply ByteArray.ext
  simp only [ByteArray.data_extract, sub]
  rw [← Array.toList_inj]
  simp
  first | rfl | rw [List.drop_take] | skip
theorem run_slice_list0 (t : TypeId) (l : List UInt8) (k k' : IntKind) (i j : Int) (h : P.underlying t = some .string)
    (h0 : 0 ≤ i) (h1 : i ≤ j) (h2 : j ≤ l.length) :
    (Instr.slice t (.string ⟨l.toArray⟩) (some (.int k i)) (some (.int k' j)) none).run P w = .ok (.string ⟨(sub l i.toNat j.toNat).toArray⟩) w := by
  rw [run_slice_string w t ⟨l.toArray⟩ k k' i j h h0 h1 h2, extract_list]
theorem run_slice_list_from0 (t : TypeId) (l : List UInt8) (k : IntKind) (i : Int) (h : P.underlying t = some .string)
    (h0 : 0 ≤ i) (h2 : i ≤ l.length) :
    (Instr.slice t (.string ⟨l.toArray⟩) (some (.int k i)) none none).run P w = .ok (.string ⟨(sub l i.toNat l.length).toArray⟩) w := by
  rw [run_slice_string_from_if w t ⟨l.toArray⟩ k i h]
  have hs : (ByteArray.mk l.toArray).size = l.length := rfl
  simp only [hs]
  rw [if_pos (by omega), extract_list]
theorem run_slice_list_to0 (t : TypeId) (l : List UInt8) (k : IntKind) (j : Int) (h : P.underlying t = some .string)
    (h0 : 0 ≤ j) (h2 : j ≤ l.length) :
    (Instr.slice t (.string ⟨l.toArray⟩) none (some (.int k j)) none).run P w = .ok (.string ⟨(sub l 0 j.toNat).toArray⟩) w := by
  rw [run_slice_string_to_if w t ⟨l.toArray⟩ k j h]
  have hs : (ByteArray.mk l.toArray).size = l.length := rfl
  simp only [hs]
  rw [if_pos (by omega), extract_list]
theorem run_add_list0 (a b : List UInt8) (h : (a.length : Int) + b.length ≤ 9223372036854775807) :
    (Op.stringOp .add ⟨a.toArray⟩ ⟨b.toArray⟩).run P w = .ok (.string ⟨(a ++ b).toArray⟩) w := by
  rw [run_string_add_sum w _ _ (by simp [ByteArray.size]; omega), ByteArray.mk_append_mk]
def elseRun {α : Type} (P : Program) (s : Sem α) (w : World) : Result α := s.run P w
@[go_sem 2000] theorem run_slice_list (t : TypeId) (l : List UInt8) (k k' : IntKind) (i j : Int) (h : P.underlying t = some .string) :
    (Instr.slice t (.string ⟨l.toArray⟩) (some (.int k i)) (some (.int k' j)) none).run P w =
      if 0 ≤ i ∧ i ≤ j ∧ j ≤ l.length then .ok (.string ⟨(sub l i.toNat j.toNat).toArray⟩) w
      else elseRun P (Instr.slice t (.string ⟨l.toArray⟩) (some (.int k i)) (some (.int k' j)) none) w := by
  split
  · next hc => exact run_slice_list0 w t l k k' i j h hc.1 hc.2.1 hc.2.2
  · rfl
@[go_sem 2000] theorem run_slice_list_from (t : TypeId) (l : List UInt8) (k : IntKind) (i : Int) (h : P.underlying t = some .string) :
    (Instr.slice t (.string ⟨l.toArray⟩) (some (.int k i)) none none).run P w =
      if 0 ≤ i ∧ i ≤ l.length then .ok (.string ⟨(sub l i.toNat l.length).toArray⟩) w
      else elseRun P (Instr.slice t (.string ⟨l.toArray⟩) (some (.int k i)) none none) w := by
  split
  · next hc => exact run_slice_list_from0 w t l k i h hc.1 hc.2
  · rfl
@[go_sem 2000] theorem run_slice_list_to (t : TypeId) (l : List UInt8) (k : IntKind) (j : Int) (h : P.underlying t = some .string) :
    (Instr.slice t (.string ⟨l.toArray⟩) none (some (.int k j)) none).run P w =
      if 0 ≤ j ∧ j ≤ l.length then .ok (.string ⟨(sub l 0 j.toNat).toArray⟩) w
      else elseRun P (Instr.slice t (.string ⟨l.toArray⟩) none (some (.int k j)) none) w := by
  split
  · next hc => exact run_slice_list_to0 w t l k j h hc.1 hc.2
  · rfl
@[go_sem 2000] theorem run_add_list (a b : List UInt8) :
    (Op.stringOp .add ⟨a.toArray⟩ ⟨b.toArray⟩).run P w =
      if (a.length : Int) + b.length ≤ 9223372036854775807 then .ok (.string ⟨(a ++ b).toArray⟩) w else elseRun P (Op.stringOp .add ⟨a.toArray⟩ ⟨b.toArray⟩) w := by
  split
  · next hc => exact run_add_list0 w a b hc
  · rfl
end
end Go.Proofs.YtmmoenbmgcplkaaGreatDoor
set_option linter.unusedVariables false
namespace Go.Proofs.YtmmoenbmgcplkaaGreatDoor
open Go Go.RowKit
theorem lt_of_heap {w : World} {g : Nat} {o : Obj} (h : w.heap[g]? = some o) : g < w.heap.size := by
  rcases Nat.lt_or_ge g w.heap.size with h1 | h1
  · exact h1
  · rw [Array.getElem?_eq_none h1] at h; cases h
theorem Q.setRow {a b : World} (h : Q a b) {g : Nat} (hg : a.heap.size ≤ g) (cs : Array Value) : Q a (b.setRow g cs) :=
  Q.below h ⟨rfl, rfl, rfl, by simp, fun k hk => by
    simp only [World.setRow, Array.getElem?_modify]
    rw [if_neg (by omega)]⟩
theorem add_off (g o n : Nat) : (⟨g, o, none⟩ : Addr).add n = ⟨g, o + n, none⟩ := by
  unfold Addr.add; split <;> simp_all
structure GX (S : List Nat) (w w' : World) : Prop where
  os : w'.os = w.os
  tape : w'.tape = w.tape
  output : w'.output = w.output
  size : w.heap.size ≤ w'.heap.size
  block : ∀ k, k < w.heap.size → k ∉ S → w'.heap[k]? = w.heap[k]?
theorem GX.refl (S : List Nat) (w : World) : GX S w w := ⟨rfl, rfl, rfl, Nat.le_refl _, fun _ _ _ => rfl⟩
theorem GX.trans {S : List Nat} {a b c : World} (h : GX S a b) (k : GX S b c) : GX S a c :=
  ⟨k.os.trans h.os, k.tape.trans h.tape, k.output.trans h.output, Nat.le_trans h.size k.size, fun i hi hr => (k.block i (Nat.lt_of_lt_of_le hi h.size) hr).trans (h.block i hi hr)⟩
theorem GX.mono {S S' : List Nat} {a b : World} (h : GX S a b) (hs : ∀ x ∈ S, x ∈ S') : GX S' a b :=
  ⟨h.os, h.tape, h.output, h.size, fun k hk hn => h.block k hk (fun hm => hn (hs k hm))⟩
theorem GX.gb {S : List Nat} {a b : World} {k : Nat} (h : a.grownBy b (some k)) (hk : k ∈ S) : GX S a b :=
  ⟨h.os, h.tape, h.output, h.size, fun i hi hn => h.block i hi (by intro e; injection e with e; exact hn (e ▸ hk))⟩
theorem GX.q {S : List Nat} {a b : World} (h : Q a b) : GX S a b := ⟨h.os, h.tape, h.output, h.size, fun k hk _ => Below.block h k hk⟩
theorem GX.drew {S : List Nat} {a b : World} (h : GX S a b) : GX S a b.drew := ⟨h.os, h.tape, h.output, h.size, h.block⟩
theorem GX.set {S : List Nat} {a b : World} (h : GX S a b) {g : Nat} (hg : g ∈ S) (i : Nat) (v : Value) : GX S a (b.setCell ⟨g, i, none⟩ v) :=
  ⟨h.os, h.tape, h.output, by simpa using h.size, fun k hk hr => by
    rw [heap_setCell_other b ⟨g, i, none⟩ k v (by intro e; exact hr (by rw [e]; exact hg))]; exact h.block k hk hr⟩
theorem GX.setRow {S : List Nat} {a b : World} (h : GX S a b) {g : Nat} (hg : g ∈ S) (cs : Array Value) : GX S a (b.setRow g cs) :=
  ⟨h.os, h.tape, h.output, by simpa [World.setRow] using h.size, fun k hk hr => by
    simp only [World.setRow, Array.getElem?_modify]
    rw [if_neg (by intro e; exact hr (by rw [← e]; exact hg))]
    exact h.block k hk hr⟩
theorem GX.toQ {S : List Nat} {w a b : World} (h : GX S a b) (hq : Q w a) (hn : ∀ k ∈ S, w.heap.size ≤ k) : Q w b :=
  Q.below hq ⟨h.os, h.tape, h.output, by have := h.size; have := hq.size; omega, fun k hk => h.block k (Nat.lt_of_lt_of_le hk hq.size) (fun hm => by have := hn k hm; omega)⟩
theorem GX.heap {S : List Nat} {a b : World} (h : GX S a b) {k : Nat} {o : Obj} (hk : k ∉ S) (ho : a.heap[k]? = some o) : b.heap[k]? = some o :=
  (h.block k (lt_of_heap ho) hk).trans ho
end Go.Proofs.YtmmoenbmgcplkaaGreatDoor
set_option linter.unusedVariables false
namespace Go.Proofs.YtmmoenbmgcplkaaGreatDoor
open Go Go.RowKit
def u8V (x : UInt8) : Value := .int .u8 (x.toNat : Int)
def arrB (b : List UInt8) : Array Value := (b.map u8V).toArray
theorem frozen_q {w w' : World} {a : Addr} (hq : Q w w') (h : a.block < w.heap.size) : w'.frozen? a = w.frozen? a := by
  have e : w'.heap[a.block]? = w.heap[a.block]? := Below.block hq a.block h
  unfold World.frozen?
  rw [e]
theorem Q.gb {w w' : World} (h : Q w w') (row : Option Nat) : w.grownBy w' row := ⟨h.os, h.tape, h.output, h.size, fun k hk _ => Below.block h k hk⟩
theorem gb_trans {a b c : World} {row : Option Nat} (h : a.grownBy b row) (k : b.grownBy c row) : a.grownBy c row :=
  ⟨k.os.trans h.os, k.tape.trans h.tape, k.output.trans h.output, Nat.le_trans h.size k.size, fun i hi hr => (k.block i (Nat.lt_of_lt_of_le hi h.size) hr).trans (h.block i hi hr)⟩
theorem gb_set {a b : World} {g : Nat} (h : a.grownBy b (some g)) (i : Nat) (v : Value) : a.grownBy (b.setCell ⟨g, i, none⟩ v) (some g) :=
  ⟨h.os, h.tape, h.output, by simpa using h.size, fun k hk hr => by
    rw [heap_setCell_other b ⟨g, i, none⟩ k v (by intro e; exact hr (by rw [e]))]; exact h.block k hk hr⟩
end Go.Proofs.YtmmoenbmgcplkaaGreatDoor
set_option linter.unusedVariables false
namespace Go.Proofs.YtmmoenbmgcplkaaGreatDoor
open Go Go.RowKit
def OwnB (w0 w : World) (v : Value) (b : List UInt8) : Prop :=
  (v = .slice none 0 0 ∧ b = []) ∨
  ∃ g cap cur fz, v = .slice (some ⟨g, 0, none⟩) b.length cap ∧ w0.heap.size ≤ g ∧ w.heap[g]? = some (.cells cur 5 fz) ∧ (fz.2 = 0 ∨ cur.size ≤ fz.1) ∧ b.length ≤ cap ∧ cap ≤ maxLen ∧ cur.size = cap ∧ cur.toList.take b.length = b.map u8V
theorem OwnB.nil (w0 w : World) : OwnB w0 w (.slice none 0 0) [] := .inl ⟨rfl, rfl⟩
theorem OwnB.g {w0 w w' : World} {v : Value} {b : List UInt8} {row : Option Nat} (h : OwnB w0 w v b) (hg : w.grownBy w' row) (hr : ∀ k, v.ownBlock = some k → row ≠ some k) : OwnB w0 w' v b := by
  rcases h with h | ⟨g, cap, cur, fz, hv, h1, h2, h3⟩
  · exact .inl h
  · refine .inr ⟨g, cap, cur, fz, hv, h1, ?_, h3⟩
    rw [hg.block g (lt_of_heap h2) (by intro e; exact hr g (by rw [hv]; rfl) e.symm)]
    exact h2
theorem OwnB.q {w0 w w' : World} {v : Value} {b : List UInt8} (h : OwnB w0 w v b) (hq : Q w w') : OwnB w0 w' v b := h.g (hq.gb none) (by simp)
theorem OwnB.base {w0 w1 w : World} {v : Value} {b : List UInt8} (h : OwnB w1 w v b) (hq : w0.heap.size ≤ w1.heap.size) : OwnB w0 w v b := by
  rcases h with h | ⟨g, cap, cur, fz, hv, h1, h2⟩
  · exact .inl h
  · exact .inr ⟨g, cap, cur, fz, hv, by omega, h2⟩
theorem OwnB.block {w0 w : World} {v : Value} {b : List UInt8} (h : OwnB w0 w v b) {k : Nat} (hk : v.ownBlock = some k) : w0.heap.size ≤ k := by
  rcases h with ⟨rfl, _⟩ | ⟨g, cap, cur, fz, rfl, h1, _⟩
  · cases hk
  · simp [Value.ownBlock] at hk; omega
theorem OwnB.of_row {w0 w : World} {v : Value} {b : List UInt8} (h : w.ownsRow w0.heap.size 5 1 v b.length (b.map u8V)) : OwnB w0 w v b := by
  rcases h.2 with ⟨rfl, h0⟩ | ⟨g, cap, cur, rfl, hb, hh, hn, hm, hcs, ht⟩
  · exact .inl ⟨rfl, List.eq_nil_of_length_eq_zero h0⟩
  · exact .inr ⟨g, cap, cur, (0, 0), rfl, hb, hh, .inl rfl, hn, hm, by omega, by rw [Nat.mul_one] at ht; exact ht⟩
theorem info_u8 : (Tryz.prog.info? 5).map (fun i => (i.zero, i.size, i.bytes)) = some (some (.int .u8 0), 1, 1) := by kernel_rfl
theorem heap_setCell_any (w : World) (g i : Nat) (cs : Array Value) (t : TypeId) (fz : Nat × Nat) (v : Value) (hg : w.heap[g]? = some (.cells cs t fz)) :
    (w.setCell ⟨g, i, none⟩ v).heap[g]? = some (.cells (cs.setIfInBounds i v) t fz) := by
  simp [World.setCell, Array.getElem?_modify, hg]
theorem heap_setCells (g : Nat) (t : TypeId) (fz : Nat × Nat) (vs : List Value) : ∀ (o : Nat) (w : World) (cur : Array Value), w.heap[g]? = some (.cells cur t fz) → o + vs.length ≤ cur.size →
    (w.setCells g o vs).heap[g]? = some (.cells (cur.toList.take o ++ vs ++ cur.toList.drop (o + vs.length)).toArray t fz) := by
  induction vs with
  | nil => intro o w cur h _; simpa [World.setCells] using h
  | cons v r ih =>
    intro o w cur h ho
    simp only [List.length_cons] at ho
    rw [World.setCells, ih (o + 1) _ _ (heap_setCell_any w g o cur t fz v h) (by simp; omega)]
    congr 2
    rw [← Array.toList_inj]
    simp only [Array.toList_setIfInBounds]
    have ho' : o < cur.toList.length := by simp; omega
    rw [List.set_eq_take_append_cons_drop, if_pos ho']
    rw [List.take_append, List.drop_append, List.length_take, Nat.min_eq_left (by omega)]
    simp only [show o + 1 - o = 1 from by omega, List.take_succ_cons, List.take_zero, show o + 1 + r.length - o = r.length + 1 from by omega, List.drop_succ_cons, List.drop_drop, List.length_cons]
    rw [List.take_take, Nat.min_eq_right (by omega), List.drop_of_length_le (l := List.take o cur.toList) (by simp; omega)]
    simp [Nat.add_comm, Nat.add_left_comm]
theorem setCells_gb (g : Nat) (vs : List Value) : ∀ (o : Nat) (w : World), w.grownBy (w.setCells g o vs) (some g) := by
  induction vs with
  | nil => intro o w; exact ⟨rfl, rfl, rfl, Nat.le_refl _, fun _ _ _ => rfl⟩
  | cons v r ih => intro o w; exact gb_trans (gb_set ⟨rfl, rfl, rfl, Nat.le_refl _, fun _ _ _ => rfl⟩ o v) (ih (o + 1) _)
theorem frozen_any {w : World} {g i : Nat} {cur : Array Value} {t : TypeId} {fz : Nat × Nat} (h : w.heap[g]? = some (.cells cur t fz)) (hf : fz.2 = 0 ∨ cur.size ≤ fz.1) (hi : i < cur.size) : w.frozen? ⟨g, i, none⟩ = false := by
  unfold World.frozen?
  rw [h]
  simp only [Bool.and_eq_false_iff, decide_eq_false_iff_not]
  omega
theorem next_le {need old : Nat} (h : old < need) : Builtin.nextslicecap need old ≤ need + need / 4 + 512 := by
  unfold Builtin.nextslicecap
  split
  · omega
  · split
    · omega
    · rw [growBy_four]
      repeat' split
      all_goals omega
theorem next_fits {need old : Nat} (h : old < need) (hb : need ≤ 211106232532992) : Builtin.nextslicecap need old * 1 ≤ 281474976710656 := by
  have := next_le h
  omega
theorem run_append_b (w0 w : World) (v : Value) (b : List UInt8) (ty : TypeId) (hown : OwnB w0 w v b) (ad : Addr) (m c : Nat) (news : List UInt8) (hm : news.length = m) (hnews : ∀ j (h : j < news.length), w.cell? (ad.add j) = some (u8V news[j]))
    (hb : b.length + m ≤ 211106232532992 ∧ m ≤ 140737488355328) (hw : w0.heap.size ≤ w.heap.size) :
    ∃ v' w', (Builtin.append_ #[88, 88] ty #[v, .slice (some ad) m c]).run Tryz.prog w = .ok v' w' ∧ OwnB w0 w' v' (b ++ news) ∧ w.grownBy w' v.ownBlock ∧ (v'.ownBlock = v.ownBlock ∨ v'.ownBlock = some w.heap.size) := by
  obtain ⟨i, hi, hz, hsz, hby⟩ := info_parts info_u8
  have hn2 : ∀ j u, (news.map u8V)[j]? = some u → w.cell? (ad.add j) = some u := by
    intro j u hu
    have hj : j < news.length := by have := (List.getElem?_eq_some_iff.1 hu).1; simpa using this
    rw [hnews j hj]
    rw [List.getElem?_map, List.getElem?_eq_getElem hj] at hu
    exact hu
  have h1 : ∀ u ∈ news.map u8V, u.oneCell' = true := by
    intro u hu
    obtain ⟨x, _, rfl⟩ := List.mem_map.1 hu
    rfl
  rcases hown with ⟨rfl, rfl⟩ | ⟨g, cap, cur, fz, rfl, hbg, hg, hfz, hnc, hcm, hcs, htake⟩
  · obtain ⟨v', w', r1, r2, r3, _, r5⟩ := run_append_own_at (P := Tryz.prog) w w.heap.size 88 ty 5 i (.int .u8 0) 1 1 Tryz.underlying88 hi hz hsz hby rfl (by decide) (.slice none 0 0) 0 [] (World.ownsRow_nil _ _ _ _) ad m c (news.map u8V) (by simp [hm]) hn2 h1 (by unfold maxLen; simp only [List.length_nil] at hb; omega) (by simp only [List.length_nil] at hb; omega) (Nat.le_refl _)
    have r2' : w'.ownsRow w.heap.size 5 1 v' news.length (news.map u8V) := by rw [hm]; simpa using r2
    exact ⟨v', w', r1, (OwnB.of_row r2').base hw, r3, r5⟩
  · by_cases hroom : b.length + m ≤ cap
    · have hf := run_firstCells_some (P := Tryz.prog) w i.size m ad m c (news.map u8V) (by simp [hm, hsz]) hn2
      have hcur : ∀ j, j < cur.size → (w.cell? ⟨g, j, none⟩).isSome = true := fun j hj => by rw [cell_of_row w g j cur _ fz hg, Array.getElem?_eq_getElem hj]; rfl
      have hst := run_storeCells_cells (P := Tryz.prog) g b.length (news.map u8V) 0 w (fun j hj => by simp at hj; simpa using hcur (b.length + j) (by omega)) (fun j hj => by simp at hj; simpa using frozen_any hg hfz (i := b.length + j) (by omega)) h1
      have hrun : (Builtin.append_ #[88, 88] ty #[.slice (some ⟨g, 0, none⟩) b.length cap, .slice (some ad) m c]).run Tryz.prog w = .ok (.slice (some ⟨g, 0, none⟩) (b.length + m) cap) (w.setCells g b.length (news.map u8V)) := by
        simp only [Nat.add_zero] at hst
        rw [hsz] at hf
        simp [Builtin.append_, run_underlying Tryz.underlying88, sizeOf, typeInfo, hi, Builtin.lenOf, hroom, hf, Addr.add_lit, hsz] at hst ⊢
        rw [hst]
        rfl
      have hh := heap_setCells g 5 fz (news.map u8V) b.length w cur hg (by simp; omega)
      have hcl : b.length ≤ cur.toList.length := by simp; omega
      refine ⟨_, _, hrun, .inr ⟨g, cap, _, fz, by simp [hm], hbg, hh, ?_, by simp [hm]; omega, hcm, ?_, ?_⟩, setCells_gb g _ _ _, .inl rfl⟩
      · rcases hfz with h | h
        · exact .inl h
        · right; simp; omega
      · simp; omega
      · have hl : (b ++ news).length = (b.map u8V ++ news.map u8V).length := by simp
        rw [hl, htake, List.take_left', List.map_append]
        rfl
    · have holds : ∀ j u, (b.map u8V)[j]? = some u → w.cell? ((⟨g, 0, none⟩ : Addr).add j) = some u := by
        intro j u hu
        have hj : j < b.length := by have := (List.getElem?_eq_some_iff.1 hu).1; simpa using this
        rw [add_off, Nat.zero_add, cell_of_row w g j cur _ fz hg]
        rw [← htake, List.getElem?_take, if_pos hj] at hu
        simpa using hu
      have hr := run_append_grow (P := Tryz.prog) w 88 ty 5 i (.int .u8 0) Tryz.underlying88 hi hz ⟨g, 0, none⟩ b.length cap (b.map u8V) (by simp [hsz]) holds ad m c (news.map u8V) (by simp [hm, hsz]) hn2 (by omega) (by omega) (by rw [hby]; exact next_fits (by omega) hb.1)
      have hge := grownCap_ge w (b.length + m) cap 5
      have hcm2 : grownCap w (b.length + m) cap 5 ≤ maxLen := grownCap_le_maxLen w (b.length + m) cap 5 (by unfold maxLen; omega)
      refine ⟨_, _, hr, .inr ⟨w.heap.size, _, _, (0, 0), by simp [hm], hw, heap_alloc_new w.drew _, .inl rfl, by simp [hm]; omega, hcm2, ?_, ?_⟩, ⟨rfl, rfl, rfl, by simp, fun k hk _ => Below.heap_alloc w.drew _ k hk⟩, .inr rfl⟩
      · simp only [Array.size_append, List.size_toArray, size_zeroCells, List.length_map, hm]
        rw [show (Value.int IntKind.u8 0).cells.size = 1 from rfl]
        omega
      · have hl : (b ++ news).length = (b.map u8V ++ news.map u8V).length := by simp
        simp only [Array.toList_append, List.append_assoc]
        rw [← List.append_assoc, hl, List.take_left', List.map_append]
        rfl
theorem run_append_room_b (w0 W : World) (g cap : Nat) (b : List UInt8) (ty : TypeId) (hown : OwnB w0 W (.slice (some ⟨g, 0, none⟩) b.length cap) b) (hg0 : g < W.heap.size) (news : List UInt8) (n : Nat) (hn : news.length = n) (hroom : b.length + n ≤ cap) :
    ∃ w', (Builtin.append_ #[88, 88] ty #[.slice (some ⟨g, 0, none⟩) b.length cap, .slice (some ⟨W.heap.size, 0, none⟩) n n]).run Tryz.prog (W.alloc (.cells (arrB news) 5)) = .ok (.slice (some ⟨g, 0, none⟩) (b.length + n) cap) w' ∧
      OwnB w0 w' (.slice (some ⟨g, 0, none⟩) (b.length + n) cap) (b ++ news) ∧ (W.alloc (.cells (arrB news) 5)).grownBy w' (some g) := by
  obtain ⟨i, hi, hz, hsz, hby⟩ := info_parts info_u8
  have hA : OwnB w0 (W.alloc (.cells (arrB news) 5)) (.slice (some ⟨g, 0, none⟩) b.length cap) b := hown.q ((Q.refl W).alloc _)
  have hn2 : ∀ j u, (news.map u8V)[j]? = some u → (W.alloc (.cells (arrB news) 5)).cell? ((⟨W.heap.size, 0, none⟩ : Addr).add j) = some u := by
    intro j u hu
    rw [add_off, Nat.zero_add, cell_of_row _ _ _ _ _ _ (heap_alloc_new W _)]
    simpa [arrB] using hu
  have h1 : ∀ u ∈ news.map u8V, u.oneCell' = true := by
    intro u hu
    obtain ⟨x, _, rfl⟩ := List.mem_map.1 hu
    rfl
  rcases hA with ⟨h, _⟩ | ⟨g', cap', cur, fz, hv, hbg, hg, hfz, hnc, hcm, hcs, htake⟩
  · cases h
  · cases hv
    have hf := run_firstCells_some (P := Tryz.prog) (W.alloc (.cells (arrB news) 5)) i.size n ⟨W.heap.size, 0, none⟩ n n (news.map u8V) (by simp [hn, hsz]) hn2
    have hcur : ∀ j, j < cur.size → ((W.alloc (.cells (arrB news) 5)).cell? ⟨g, j, none⟩).isSome = true := fun j hj => by rw [cell_of_row _ g j cur _ fz hg, Array.getElem?_eq_getElem hj]; rfl
    have hst := run_storeCells_cells (P := Tryz.prog) g b.length (news.map u8V) 0 (W.alloc (.cells (arrB news) 5)) (fun j hj => by simp at hj; simpa using hcur (b.length + j) (by omega)) (fun j hj => by simp at hj; simpa using frozen_any hg hfz (i := b.length + j) (by omega)) h1
    have hrun : (Builtin.append_ #[88, 88] ty #[.slice (some ⟨g, 0, none⟩) b.length cap, .slice (some ⟨W.heap.size, 0, none⟩) n n]).run Tryz.prog (W.alloc (.cells (arrB news) 5)) = .ok (.slice (some ⟨g, 0, none⟩) (b.length + n) cap) ((W.alloc (.cells (arrB news) 5)).setCells g b.length (news.map u8V)) := by
      simp only [Nat.add_zero] at hst
      rw [hsz] at hf
      simp [Builtin.append_, run_underlying Tryz.underlying88, sizeOf, typeInfo, hi, Builtin.lenOf, hroom, hf, Addr.add_lit, hsz] at hst ⊢
      rw [hst]
      rfl
    have hh := heap_setCells g 5 fz (news.map u8V) b.length _ cur hg (by simp; omega)
    have hcl : b.length ≤ cur.toList.length := by simp; omega
    refine ⟨_, hrun, .inr ⟨g, cap, _, fz, by simp [hn], hbg, hh, ?_, by simp [hn]; omega, hcm, ?_, ?_⟩, setCells_gb g _ _ _⟩
    · rcases hfz with h | h
      · exact .inl h
      · right; simp; omega
    · simp; omega
    · have hl : (b ++ news).length = (b.map u8V ++ news.map u8V).length := by simp
      rw [hl, htake, List.take_left', List.map_append]
      rfl
theorem step_append_room_b {ops : Array Oper} {o : Oper} {a : Act} {K : Act → World → Prop} {R : Exit → Act → World → Prop} {E : Prop} (hgd : o.guard = none) (s x : Operand)
    (ho : o.op = .call { callee := .builtin .append, args := #[s, x], argTypes := #[88, 88] })
    (w0 W : World) (g len cap : Nat) (b : List UInt8) (hlen : b.length = len) (hs : a.eval s = .slice (some ⟨g, 0, none⟩) len cap) (hown : OwnB w0 W (.slice (some ⟨g, 0, none⟩) len cap) b) (hg0 : g < W.heap.size) (news : List UInt8) (n : Nat) (hn : news.length = n) (hx : a.eval x = .slice (some ⟨W.heap.size, 0, none⟩) n n) (hroom : len + n ≤ cap)
    (h : ∀ w', OwnB w0 w' (.slice (some ⟨g, 0, none⟩) (len + n) cap) (b ++ news) → W.grownBy w' (some g) → K (a.put o.dst (.slice (some ⟨g, 0, none⟩) (len + n) cap)) w') :
    if Region.wanted o (yielded ops a.tmps) = true then Oper.wp Tryz.prog o a (W.alloc (.cells (arrB news) 5)) K R else E := by
  subst hlen
  have hw : Region.wanted o (yielded ops a.tmps) = true := by simp [Region.wanted, hgd]
  rw [if_pos hw]
  obtain ⟨w', hr, h2, h3⟩ := run_append_room_b w0 W g cap b o.type hown hg0 news n hn hroom
  unfold Oper.wp execOp
  simp only [ho, resolve, invoke, builtin, Sem.run_bind, Sem.run_pure, Result.andThen_ok, List.map_toArray, List.map_cons, List.map_nil, hs, hx, hr]
  exact h w' h2 (gb_trans (World.grownBy_alloc W _ _) h3)
theorem gb_q_own {w0 W w' : World} {v : Value} (hg : W.grownBy w' v.ownBlock) (hq : Q w0 W) (hv : ∀ k, v.ownBlock = some k → w0.heap.size ≤ k) : Q w0 w' :=
  Q.below hq ⟨hg.os, hg.tape, hg.output, by have := hg.size; have := hq.size; omega, fun k hk => hg.block k (Nat.lt_of_lt_of_le hk hq.size) (fun e => by have := hv k e.symm; omega)⟩
theorem wpList_append_b {ops : Array Oper} {rest : List Oper} {o : Oper} {a : Act} {R : Exit → Act → World → Prop} (hgd : o.guard = none) (s x : Operand)
    (ho : o.op = .call { callee := .builtin .append, args := #[s, x], argTypes := #[88, 88] })
    (w0 W : World) (v : Value) (b : List UInt8) (hs : a.eval s = v) (hown : OwnB w0 W v b) (hq : Q w0 W) (news : List UInt8) (n : Nat) (hn : news.length = n) (hx : a.eval x = .slice (some ⟨W.heap.size, 0, none⟩) n n) (hb : b.length + n ≤ 211106232532992 ∧ n ≤ 140737488355328)
    (h : ∀ v' w', OwnB w0 w' v' (b ++ news) → Q w0 w' → (W.grownBy w' v.ownBlock ∧ (v'.ownBlock = v.ownBlock ∨ v'.ownBlock = some (W.heap.size + 1))) → wpList Tryz.prog ops R rest (a.put o.dst v') w') : wpList Tryz.prog ops R (o :: rest) a (W.alloc (.cells (arrB news) 5)) := by
  have hq1 := hq.alloc (.cells (arrB news) 5)
  have hA : ∀ k, v.ownBlock = some k → w0.heap.size ≤ k := fun k hk => hown.block hk
  have hown1 : OwnB w0 (W.alloc (.cells (arrB news) 5)) v b := hown.q ((Q.refl W).alloc _)
  obtain ⟨v', w', hr, h2, h3, h4⟩ := run_append_b w0 _ v b o.type hown1 ⟨W.heap.size, 0, none⟩ n n news hn (fun j hj => by
    rw [add_off, Nat.zero_add, cell_of_row _ _ _ _ _ _ (heap_alloc_new W _)]
    simp [arrB, hj]) hb hq1.size
  refine wpList_plain hgd fun K hK => ?_
  unfold Oper.wp execOp
  simp only [ho, resolve, invoke, builtin, Sem.run_bind, Sem.run_pure, Result.andThen_ok, List.map_toArray, List.map_cons, List.map_nil, hs, hx, hr]
  exact hK _ _ (h v' w' h2 (gb_q_own h3 hq1 hA) ⟨gb_trans (World.grownBy_alloc W _ _) h3, by simpa using h4⟩)
theorem wpList_append_from {ops : Array Oper} {rest : List Oper} {o : Oper} {a : Act} {R : Exit → Act → World → Prop} (hgd : o.guard = none) (s x : Operand)
    (ho : o.op = .call { callee := .builtin .append, args := #[s, x], argTypes := #[88, 88] })
    (w0 W : World) (v : Value) (b : List UInt8) (hs : a.eval s = v) (hown : OwnB w0 W v b) (hq : Q w0 W) (ad : Addr) (news : List UInt8) (n c : Nat) (hn : news.length = n) (hx : a.eval x = .slice (some ad) n c)
    (hc : ∀ j (h : j < news.length), W.cell? (ad.add j) = some (u8V news[j])) (hb : b.length + n ≤ 211106232532992 ∧ n ≤ 140737488355328)
    (h : ∀ v' w', OwnB w0 w' v' (b ++ news) → Q w0 w' → (W.grownBy w' v.ownBlock ∧ (v'.ownBlock = v.ownBlock ∨ v'.ownBlock = some W.heap.size)) → wpList Tryz.prog ops R rest (a.put o.dst v') w') : wpList Tryz.prog ops R (o :: rest) a W := by
  have hA : ∀ k, v.ownBlock = some k → w0.heap.size ≤ k := fun k hk => hown.block hk
  obtain ⟨v', w', hr, h2, h3, h4⟩ := run_append_b w0 _ v b o.type hown ad n c news hn hc hb hq.size
  refine wpList_plain hgd fun K hK => ?_
  unfold Oper.wp execOp
  simp only [ho, resolve, invoke, builtin, Sem.run_bind, Sem.run_pure, Result.andThen_ok, List.map_toArray, List.map_cons, List.map_nil, hs, hx, hr]
  exact hK _ _ (h v' w' h2 (gb_q_own h3 hq hA) ⟨h3, h4⟩)
theorem step_append_b {ops : Array Oper} {o : Oper} {a : Act} {K : Act → World → Prop} {R : Exit → Act → World → Prop} {E : Prop} (hgd : o.guard = none) (s x : Operand)
    (ho : o.op = .call { callee := .builtin .append, args := #[s, x], argTypes := #[88, 88] })
    (w0 W : World) (v : Value) (b : List UInt8) (hs : a.eval s = v) (hown : OwnB w0 W v b) (hq : Q w0 W) (news : List UInt8) (n : Nat) (hn : news.length = n) (hx : a.eval x = .slice (some ⟨W.heap.size, 0, none⟩) n n) (hb : b.length + n ≤ 211106232532992 ∧ n ≤ 140737488355328)
    (h : ∀ v' w', OwnB w0 w' v' (b ++ news) → Q w0 w' → (W.grownBy w' v.ownBlock ∧ (v'.ownBlock = v.ownBlock ∨ v'.ownBlock = some (W.heap.size + 1))) → K (a.put o.dst v') w') :
    if Region.wanted o (yielded ops a.tmps) = true then Oper.wp Tryz.prog o a (W.alloc (.cells (arrB news) 5)) K R else E := by
  have hw : Region.wanted o (yielded ops a.tmps) = true := by simp [Region.wanted, hgd]
  rw [if_pos hw]
  have hq1 := hq.alloc (.cells (arrB news) 5)
  have hA : ∀ k, v.ownBlock = some k → w0.heap.size ≤ k := fun k hk => hown.block hk
  have hown1 : OwnB w0 (W.alloc (.cells (arrB news) 5)) v b := hown.q ((Q.refl W).alloc _)
  obtain ⟨v', w', hr, h2, h3, h4⟩ := run_append_b w0 _ v b o.type hown1 ⟨W.heap.size, 0, none⟩ n n news hn (fun j hj => by
    rw [add_off, Nat.zero_add, cell_of_row _ _ _ _ _ _ (heap_alloc_new W _)]
    simp [arrB, hj]) hb hq1.size
  unfold Oper.wp execOp
  simp only [ho, resolve, invoke, builtin, Sem.run_bind, Sem.run_pure, Result.andThen_ok, List.map_toArray, List.map_cons, List.map_nil, hs, hx, hr]
  exact h v' w' h2 (gb_q_own h3 hq1 hA) ⟨gb_trans (World.grownBy_alloc W _ _) h3, by simpa using h4⟩
theorem conv_b {w0 w : World} {v : Value} {b : List UInt8} (h : OwnB w0 w v b) : (convert 88 9 v).run Tryz.prog w = .ok (.string ⟨b.toArray⟩) w := by
  rcases h with ⟨rfl, rfl⟩ | ⟨g, cap, cur, fz, rfl, hbg, hg, hfz, hnc, hcm, hcs, htake⟩
  · have := Lib.run_convert_nil_bytes (P := Tryz.prog) w 88 9 5 0 Tryz.underlying88 Tryz.underlying5 Tryz.underlying9
    rw [this]
  · refine run_convert_bytes_back (P := Tryz.prog) w 88 9 5 ⟨g, 0, none⟩ cap b Tryz.underlying88 Tryz.underlying5 Tryz.underlying9 ?_
    intro i hi
    rw [add_off, Nat.zero_add, cell_of_row w g i cur _ fz hg]
    have e : cur[i]? = (b.map u8V)[i]? := by rw [← htake, List.getElem?_take, if_pos hi, Array.getElem?_toList]
    rw [e]
    simp [u8V, hi]
theorem bytes_of (l : List UInt8) (w : World) (hl : l.length ≤ 9223372036854775807) : ∃ v w', (convert 9 88 (.string ⟨l.toArray⟩)).run Tryz.prog w = .ok v w' ∧ OwnB w w' v l ∧ Q w w' ∧ ∃ cap, v = .slice (some ⟨w.heap.size, 0, none⟩) l.length cap := by
  have hr := run_bytes_of_string (P := Tryz.prog) w 9 88 5 ⟨l.toArray⟩ Tryz.underlying9 Tryz.underlying88 Tryz.underlying5
  have hsz : (ByteArray.mk l.toArray).size = l.length := rfl
  have hge := grownCap_ge w l.length 0 5
  have hcm2 := grownCap_le_maxLen w l.length 0 5 (by unfold maxLen; omega)
  rw [hsz] at hr
  refine ⟨_, _, hr, .inr ⟨w.heap.size, _, _, _, rfl, Nat.le_refl _, heap_alloc_new w.drew _, .inr (Nat.le_refl _), hge, hcm2, ?_, ?_⟩, (Q.refl w).drew.alloc _, _, rfl⟩
  · simp [bytesRow, hsz]; omega
  · simp [bytesRow, u8V]
theorem OwnB.form {w0 w : World} {v : Value} {b : List UInt8} (h : OwnB w0 w v b) : ∃ A cap, v = .slice A b.length cap ∧ b.length ≤ cap ∧ cap ≤ maxLen ∧ (A = none → b = []) ∧ ∀ ad, A = some ad → w0.heap.size ≤ ad.block ∧ ad = ⟨ad.block, 0, none⟩ ∧
    (∀ i, i < b.length → w.cell? ⟨ad.block, i, none⟩ = some (.int .u8 ((gB b i).toNat : Int)) ∧ w.frozen? ⟨ad.block, i, none⟩ = false) := by
  rcases h with ⟨rfl, rfl⟩ | ⟨g, cap, cur, fz, rfl, hbg, hg, hfz, hnc, hcm, hcs, htake⟩
  · exact ⟨none, 0, rfl, Nat.le_refl _, by unfold maxLen; omega, fun _ => rfl, fun ad h => by cases h⟩
  · refine ⟨_, cap, rfl, hnc, hcm, fun h => (by cases h), fun ad h => ?_⟩
    cases h
    refine ⟨hbg, rfl, fun i hi => ⟨?_, frozen_any hg hfz (by omega)⟩⟩
    show w.cell? ⟨g, i, none⟩ = _
    rw [cell_of_row w g i cur _ fz hg]
    have e : cur[i]? = (b.map u8V)[i]? := by rw [← htake, List.getElem?_take, if_pos hi, Array.getElem?_toList]
    rw [e]
    simp [u8V, gB, List.getD, hi]
theorem OwnB.pos {w0 w : World} {v : Value} {b : List UInt8} (h : OwnB w0 w v b) (hb : 0 < b.length) : ∃ g cap, v = .slice (some ⟨g, 0, none⟩) b.length cap ∧ w0.heap.size ≤ g ∧ b.length ≤ cap ∧ cap ≤ maxLen ∧
    ∀ i, i < b.length → w.cell? ⟨g, i, none⟩ = some (.int .u8 ((gB b i).toNat : Int)) ∧ w.frozen? ⟨g, i, none⟩ = false := by
  obtain ⟨A, cap, hv, h1, h2, h3, h4⟩ := h.form
  cases A with
  | none => rw [h3 rfl] at hb; cases hb
  | some ad =>
    obtain ⟨h5, h6, h7⟩ := h4 ad rfl
    exact ⟨ad.block, cap, by rw [hv, ← h6], h5, h1, h2, h7⟩
theorem OwnB.set {w0 w : World} {g n cap : Nat} {b : List UInt8} (h : OwnB w0 w (.slice (some ⟨g, 0, none⟩) n cap) b) (i : Nat) (x : UInt8) : OwnB w0 (w.setCell ⟨g, i, none⟩ (.int .u8 (x.toNat : Int))) (.slice (some ⟨g, 0, none⟩) n cap) (b.set i x) := by
  rcases h with ⟨h, _⟩ | ⟨g', cap', cur, fz, hv, hbg, hg, hfz, hnc, hcm, hcs, htake⟩
  · cases h
  · cases hv
    refine .inr ⟨g, cap, _, fz, by simp, hbg, heap_setCell_any w g i cur _ fz _ hg, ?_, by simpa using hnc, hcm, by simpa using hcs, ?_⟩
    · rcases hfz with h | h
      · exact .inl h
      · right; simpa using h
    · simp only [Array.toList_setIfInBounds, List.length_set]
      rw [List.take_set, htake, List.map_set]
      rfl
theorem make_b (n : Nat) (w : World) (hn : n ≤ 281474976710656) : ∃ w', (Instr.makeSlice 88 (.int .i64 0) (.int .i64 (n : Int))).run Tryz.prog w = .ok (.slice (some ⟨w.heap.size, 0, none⟩) 0 n) w' ∧ OwnB w w' (.slice (some ⟨w.heap.size, 0, none⟩) 0 n) [] ∧ Q w w' := by
  obtain ⟨i, hi, hz, hsz, hby⟩ := info_parts info_u8
  have h := run_make (P := Tryz.prog) w 88 5 i _ Tryz.underlying88 hi hz .i64 .i64 0 (n : Int) (by omega) (by omega) (by rw [hby]; omega) (by omega)
  refine ⟨_, h, .inr ⟨w.heap.size, n, _, (0, 0), rfl, Nat.le_refl _, heap_alloc_new w _, .inl rfl, Nat.zero_le _, by unfold maxLen; omega, ?_, rfl⟩, (Q.refl w).alloc _⟩
  rw [size_madeCells, hsz]; simp
end Go.Proofs.YtmmoenbmgcplkaaGreatDoor
set_option linter.unusedVariables false
namespace Go.Proofs.YtmmoenbmgcplkaaGreatDoor
open Go Go.RowKit
def StrsAt (w : World) (A : Option Addr) (n : Nat) (ls : List (List UInt8)) : Prop :=
  n = ls.length ∧ (0 < n → ∃ ad, A = some ad ∧ ∀ i (h : i < ls.length), w.cell? (ad.add i) = some (.string ⟨(ls[i]).toArray⟩))
theorem StrsAt.q {w w' : World} {A : Option Addr} {n : Nat} {ls : List (List UInt8)} (h : StrsAt w A n ls) (hq : Q w w') : StrsAt w' A n ls :=
  ⟨h.1, fun h0 => let ⟨ad, e, hc⟩ := h.2 h0; ⟨ad, e, fun i hi => hq.cell (hc i hi)⟩⟩
def gL (ls : List (List UInt8)) (i : Nat) : List UInt8 := ls.getD i []
theorem StrsAt.at {w : World} {A : Option Addr} {n : Nat} {ls : List (List UInt8)} (h : StrsAt w A n ls) {i : Nat} (hi : i < n) :
    ∃ ad, A = some ad ∧ w.cell? (ad.add i) = some (.string ⟨(gL ls i).toArray⟩) := by
  obtain ⟨ad, e, hc⟩ := h.2 (by omega)
  have hi' : i < ls.length := by rw [← h.1]; exact hi
  exact ⟨ad, e, by rw [hc i hi']; simp [gL, List.getD, hi']⟩
structure OneCell (P : Program) (t e : TypeId) (z : Value) (bytes : Nat) : Prop where
  under : P.underlying t = some (.slice e)
  info : (P.info? e).map (fun i => (i.zero, i.size, i.bytes)) = some (some z, 1, bytes)
  zsize : z.cells.size = 1
def OwnS (e : TypeId) (w0 w : World) (v : Value) (us : List Value) : Prop := w.ownsRow w0.heap.size e 1 v us.length us
theorem OwnS.nil (e : TypeId) (w0 w : World) : OwnS e w0 w (.slice none 0 0) [] := ⟨rfl, .inl ⟨rfl, rfl⟩⟩
theorem OwnS.q {e : TypeId} {w0 w w' : World} {v : Value} {us : List Value} (h : OwnS e w0 w v us) (hq : Q w w') : OwnS e w0 w' v us := by
  have hg : w.grownBy w' none := ⟨hq.os, hq.tape, hq.output, hq.size, fun k hk _ => Below.block hq k hk⟩
  refine h.kept hg ?_
  rcases hv : v.ownBlock with _ | k
  · exact .inl rfl
  · exact .inr (by simp)
theorem OwnS.block {e : TypeId} {w0 w : World} {v : Value} {us : List Value} (h : OwnS e w0 w v us) {k : Nat} (hk : v.ownBlock = some k) : w0.heap.size ≤ k := by
  rcases h.2 with ⟨rfl, _⟩ | ⟨g, cap, cur, rfl, hb, _⟩
  · cases hk
  · simp [Value.ownBlock] at hk; omega
theorem OwnS.form {e : TypeId} {w0 w : World} {v : Value} {us : List Value} (h : OwnS e w0 w v us) :
    ∃ A cap, v = .slice A us.length cap ∧ us.length ≤ cap ∧ cap ≤ maxLen ∧ ∀ i (hi : i < us.length), ∃ ad, A = some ad ∧ w0.heap.size ≤ ad.block ∧ w.cell? (ad.add i) = some us[i] := by
  rcases h.2 with ⟨rfl, h0⟩ | ⟨g, cap, cur, rfl, hb, hh, hn, hm, hcs, ht⟩
  · exact ⟨none, 0, by rw [h0], by omega, by omega, fun i hi => by omega⟩
  · refine ⟨_, cap, rfl, hn, hm, fun i hi => ⟨_, rfl, hb, ?_⟩⟩
    have ea : (Addr.add ⟨g, 0, none⟩ i) = ⟨g, i, none⟩ := by unfold Addr.add; split <;> simp_all
    have hi' : i < cur.size := by omega
    rw [ea]
    simp only [World.cell?, hh, Option.isSome_none, Bool.false_eq_true, if_false]
    have : us[i]? = cur.toList[i]? := by rw [← ht, List.getElem?_take, if_pos (by omega)]
    rw [List.getElem?_eq_getElem hi] at this
    rw [this]; simp
def strV (l : List UInt8) : Value := .string ⟨l.toArray⟩
theorem StrsAt_new (W : World) (e : TypeId) (ls : List (List UInt8)) : StrsAt (W.alloc (.cells (ls.map strV).toArray e)) (some ⟨W.heap.size, 0, none⟩) ls.length ls := by
  refine ⟨rfl, fun _ => ⟨_, rfl, fun i hi => ?_⟩⟩
  have ea : (Addr.add ⟨W.heap.size, 0, none⟩ i) = ⟨W.heap.size, i, none⟩ := by unfold Addr.add; split <;> simp_all
  have e2 : (W.alloc (.cells (ls.map strV).toArray e)).heap[W.heap.size]? = some (.cells (ls.map strV).toArray e) := (MapKept.heap_alloc W _).1
  rw [ea]
  unfold World.cell?
  rw [e2]
  simp [strV, hi]
def BldAt (w0 w : World) (b : Nat) (l : List UInt8) : Prop := Lib.IsBuilder 108 5 w0.heap.size b (Lib.byteCells l) w
theorem infoBuilder : Builder.Extra Tryz.prog lays166_ren := {
  sizeBuilder := by kernel_rfl
  liesBuilder := by kernel_rfl
  t5 := Tryz.underlying5
  a5 := Tryz.isAgg5
  z5 := Tryz.sizeOf5
  v5 := Tryz.zeroValue5
  infoByte := by kernel_rfl
  cellsByte := by kernel_rfl
  sizeByte := by kernel_rfl
  neB5 := by decide }
theorem strCells_list (b : List UInt8) : Lib.strCells ⟨b.toArray⟩ = Lib.byteCells b := by unfold Lib.strCells Lib.byteCells; simp
theorem byteCells_length (a : List UInt8) : (Lib.byteCells a).length = a.length := by unfold Lib.byteCells; simp
theorem BldAt.q {w0 w w' : World} {b : Nat} {l : List UInt8} (h : BldAt w0 w b l) (hq : Q w w') : BldAt w0 w' b l := by
  have hg : w.grownBy w' none := ⟨hq.os, hq.tape, hq.output, hq.size, fun k hk _ => Below.block hq k hk⟩
  have go : ∀ p, Lib.BuilderAt 108 5 w0.heap.size b p (Lib.byteCells l) w → Lib.BuilderAt 108 5 w0.heap.size b p (Lib.byteCells l) w' := by
    rintro p ⟨h1, v, h2, h3, h4⟩
    refine ⟨h1, v, hq.block h2, h3.kept hg ?_, h4⟩
    rcases hv : v.ownBlock with _ | k
    · exact .inl rfl
    · exact .inr (by simp)
  rcases h with h | h
  · exact .inl (go _ h)
  · exact .inr (go _ h)
theorem bldString {w0 : World} (b : Nat) (l : List UInt8) (w : World) (h : BldAt w0 w b l) (hq : w0.heap.size ≤ w.heap.size) :
    Calls Tryz.prog 77 #[.pointer (some ⟨b, 0, none⟩)] w fun e w' => e = .returned (.string ⟨l.toArray⟩) ∧ Below w0.heap.size w w' :=
  Tryz.Builder_String_any w0.heap.size b l w h hq
end Go.Proofs.YtmmoenbmgcplkaaGreatDoor
set_option linter.unusedVariables false
set_option linter.unusedSimpArgs false
namespace Go.Proofs.YtmmoenbmgcplkaaGreatDoor
open Go Go.RowKit
def letterL (b : UInt8) : Bool := (97 ≤ b.toNat && b.toNat ≤ 122) || (65 ≤ b.toNat && b.toNat ≤ 90) || (48 ≤ b.toNat && b.toNat ≤ 57)
set_option maxRecDepth 100000 in
set_option maxHeartbeats 4000000 in
theorem letter_any (b : UInt8) (w : World) :
    Calls Tryz.prog 114 #[.int .u8 b.toNat] w fun e w' => e = .returned (.bool (letterL b)) ∧ w' = w := by
  go_enter Tryz.func114, Tryz.ntmps114
  go_wp2_with fail
  all_goals
    go_ret
    refine ⟨?_, rfl⟩
    show Ending.returned (.bool _) = .returned (.bool _)
    refine congrArg _ (congrArg _ ?_)
    rw [Bool.eq_iff_iff]
    simp [letterL]
    try omega
def BO (B b : Nat) (l : List UInt8) (w : World) : Prop := b < B ∧ ∃ p v, w.heap[b]? = some (.cells #[p, v] 108 (0, 0)) ∧ (p = .pointer none ∨ p = .pointer (some ⟨b, 0, none⟩)) ∧ w.ownsRow B 5 1 v l.length (l.map u8V)
structure KB (B b : Nat) (w w' : World) : Prop where
  os : w'.os = w.os
  tape : w'.tape = w.tape
  output : w'.output = w.output
  size : w.heap.size ≤ w'.heap.size
  block : ∀ k, k < B → k ≠ b → w'.heap[k]? = w.heap[k]?
theorem KB.refl (B b : Nat) (w : World) : KB B b w w := ⟨rfl, rfl, rfl, Nat.le_refl _, fun _ _ _ => rfl⟩
theorem KB.trans {B b : Nat} {x y z : World} (h : KB B b x y) (k : KB B b y z) : KB B b x z :=
  ⟨k.os.trans h.os, k.tape.trans h.tape, k.output.trans h.output, Nat.le_trans h.size k.size, fun i h1 h2 => (k.block i h1 h2).trans (h.block i h1 h2)⟩
theorem KB.toQ {B b : Nat} {w0 w w' : World} (h : KB B b w w') (hq : Q w0 w) (hb : w0.heap.size ≤ b) (hB : b < B) : Q w0 w' :=
  Q.below hq ⟨h.os, h.tape, h.output, h.size, fun k hk => h.block k (by omega) (by omega)⟩
theorem KB.cell {B b : Nat} {w w' : World} {a : Addr} {v : Value} (h : KB B b w w') (h1 : a.block < B) (h2 : a.block ≠ b) (hc : w.cell? a = some v) : w'.cell? a = some v := by
  unfold World.cell? at *; rw [h.block _ h1 h2]; exact hc
theorem KB.q {B b : Nat} {w w' : World} (h : Q w w') (hs : B ≤ w.heap.size) : KB B b w w' := ⟨h.os, h.tape, h.output, h.size, fun k hk _ => Below.block h k (by omega)⟩
theorem BO.q {B b : Nat} {l : List UInt8} {w w' : World} (h : BO B b l w) (hq : Q w w') : BO B b l w' := by
  obtain ⟨h1, p, v, h2, h3, h4⟩ := h
  refine ⟨h1, p, v, hq.block h2, h3, h4.1, ?_⟩
  rcases h4.2 with h5 | ⟨g, cap, cur, hv, e1, e2, e3⟩
  · exact .inl h5
  · exact .inr ⟨g, cap, cur, hv, e1, hq.block e2, e3⟩
theorem BO.new (w w' : World) (b B : Nat) (hh : w.heap[b]? = some (.cells #[.pointer none, .slice none 0 0] 108 (0, 0))) (hb : b < B) : BO B b [] w := ⟨hb, _, _, hh, .inl rfl, rfl, .inl ⟨rfl, rfl⟩⟩
theorem copyCheck_bo (B b : Nat) (l : List UInt8) (w : World) (h : BO B b l w) :
    Calls Tryz.prog 126 #[.pointer (some ⟨b, 0, none⟩)] w fun e w' => e = .returned (.tuple #[]) ∧ (∃ v, w'.heap[b]? = some (.cells #[.pointer (some ⟨b, 0, none⟩), v] 108 (0, 0)) ∧ w'.ownsRow B 5 1 v l.length (l.map u8V)) ∧ w.grownBy w' (some b) ∧ w'.heap.size = w.heap.size := by
  obtain ⟨h1, p, v, h2, h3, h4⟩ := h
  have c0 : w.cell? ⟨b, 0, none⟩ = some p := by rw [cell_of_row _ _ _ _ _ _ h2]; rfl
  rcases h3 with rfl | rfl
  · refine (Any.Builder_copyCheck_fresh ({ lays166 with } : Lays.n240 Tryz.prog lays166_ren) infoBuilder.toX72 b w c0 (by unfold World.shape?; rw [h2]; rfl) (frozen_of_row w b 0 _ _ h2)).mono ?_
    rintro e w' ⟨he, rfl⟩
    refine ⟨he, ⟨v, by rw [heap_setCell_any w b 0 _ _ _ _ h2]; rfl, ?_⟩, gb_set (b := w) ⟨rfl, rfl, rfl, Nat.le_refl _, fun _ _ _ => rfl⟩ 0 _, by simp [World.setCell]⟩
    refine World.ownsRow.kept h4 (gb_set (b := w) ⟨rfl, rfl, rfl, Nat.le_refl _, fun _ _ _ => rfl⟩ 0 _) (.inr fun e => ?_)
    rcases h4.2 with ⟨rfl, _⟩ | ⟨g, cap, cur, rfl, hb, _⟩
    · cases e
    · have : g = b := by simpa [Value.ownBlock] using e
      omega
  · refine (Any.Builder_copyCheck_used ({ lays166 with } : Lays.n240 Tryz.prog lays166_ren) infoBuilder.toX72 b w c0).mono ?_
    rintro e w' ⟨he, rfl⟩
    exact ⟨he, ⟨v, h2, h4⟩, ⟨rfl, rfl, rfl, Nat.le_refl _, fun _ _ _ => rfl⟩, rfl⟩
theorem u8_info : (Tryz.prog.info? 5).map (fun i => (i.zero, i.size, i.bytes)) = some (some (.int .u8 0), 1, 1) := by kernel_rfl
theorem KB.of_gb {B b : Nat} {w w' : World} {row : Option Nat} (h : w.grownBy w' row) (hr : ∀ k, row = some k → k = b ∨ B ≤ k) (hs : B ≤ w.heap.size) : KB B b w w' :=
  ⟨h.os, h.tape, h.output, h.size, fun k hk hb => h.block k (by omega) (fun e => by rcases hr k e.symm with h1 | h1 <;> omega)⟩
theorem BO.bld {B b : Nat} {l : List UInt8} {w0 w : World} (h : BO B b l w) (h0 : w0.heap.size ≤ b) : BldAt w0 w b l := by
  obtain ⟨h1, p, v, h2, h3, h4⟩ := h
  have go : Lib.BuilderAt 108 5 w0.heap.size b p (Lib.byteCells l) w := by
    have hl : Lib.byteCells l = l.map u8V := rfl
    refine ⟨h0, v, h2, ?_, ?_⟩
    · rw [hl, List.length_map]
      refine ⟨h4.1, ?_⟩
      rcases h4.2 with h5 | ⟨g, cap, cur, hv, e1, e2, e3⟩
      · exact .inl h5
      · exact .inr ⟨g, cap, cur, hv, by omega, e2, e3⟩
    · rcases h4.2 with ⟨rfl, _⟩ | ⟨g, cap, cur, rfl, e1, _⟩
      · intro e; cases e
      · intro e; simp [Value.ownBlock] at e; omega
  rcases h3 with rfl | rfl
  · exact .inl go
  · exact .inr go
set_option maxRecDepth 100000 in
set_option maxHeartbeats 4000000 in
theorem boByte (B b : Nat) (l : List UInt8) (c : UInt8) (w : World) (h : BO B b l w) (hs : B ≤ w.heap.size) (hl : l.length + 1 ≤ 140737488355328) :
    Calls Tryz.prog 159 #[.pointer (some ⟨b, 0, none⟩), .int .u8 c.toNat] w fun e w' => e = .returned .nilIface ∧ BO B b (l ++ [c]) w' ∧ KB B b w w' := by
  obtain ⟨i0, hi, hz0, hz1, hz2⟩ := info_parts u8_info
  have hbB := h.1
  go_enter Tryz.func159, Tryz.ntmps159
  go_wp2_with fail
  refine (copyCheck_bo B b l w h).mono ?_
  rintro e w1 ⟨rfl, ⟨v, hbk, hown⟩, hg1, hz⟩
  clear h
  have c1 : w1.cell? ⟨b, 1, none⟩ = some v := by rw [cell_of_row _ _ _ _ _ _ hbk]; rfl
  have hlt : b < w1.heap.size := lt_of_heap hbk
  have hs1 : B ≤ w1.heap.size := by omega
  clear hz
  go_upto_region 2 with (fail)
  iterate 22 go_step
  refine wpList_append_own _ rfl (.tmp 11) (.tmp 13) 88 rfl B 5 i0 (.int .u8 0) 1 1 Tryz.underlying88 hi hz0 hz1 hz2 rfl (by decide) _ _ _ rfl (hown.alloc _) ⟨w1.heap.size, 0, none⟩ 1 1 [.int .u8 c.toNat] rfl rfl ?c1 ?c2 ?c3 ?c4 ?c5 ?_
  case c1 =>
    intro j u hj
    match j, hj with
    | 0, hj => simp at hj; subst hj; simp [Addr.add]
  case c2 => intro u hu; simp at hu; subst hu; rfl
  case c3 => unfold maxLen; omega
  case c4 => omega
  case c5 => simp; omega
  intro v' w2 hown' hgrow _
  have hne : v.ownBlock ≠ some b := by
    rcases hown.2 with ⟨rfl, _⟩ | ⟨g, cap, cur, rfl, e1, _⟩
    · intro e; cases e
    · intro e; simp [Value.ownBlock] at e; omega
  have hvB : ∀ k, v.ownBlock = some k → B ≤ k := by
    intro k hk
    rcases hown.2 with ⟨rfl, _⟩ | ⟨g, cap, cur, rfl, e1, _⟩
    · cases hk
    · simp [Value.ownBlock] at hk; omega
  have hb2 : w2.heap[b]? = some (.cells #[.pointer (some ⟨b, 0, none⟩), v] 108 (0, 0)) := by
    rw [hgrow.block b (by simp; omega) (fun e => hne e.symm)]
    exact ((Q.refl w1).alloc _).block hbk
  have d0 : w2.cell? ⟨b, 0, none⟩ = some (.pointer (some ⟨b, 0, none⟩)) := by rw [cell_of_row _ _ _ _ _ _ hb2]; rfl
  have d1 : w2.cell? ⟨b, 1, none⟩ = some v := by rw [cell_of_row _ _ _ _ _ _ hb2]; rfl
  have f1 : w2.frozen? ⟨b, 1, none⟩ = false := frozen_of_row w2 b 1 _ _ hb2
  obtain ⟨g, cap, rfl⟩ : ∃ g cap, v' = .slice (some ⟨g, 0, none⟩) (l.length + 1) cap := by
    rcases hown'.2 with ⟨_, h0⟩ | ⟨g, cap, cur, hv, _⟩
    · omega
    · exact ⟨g, cap, hv⟩
  go_wp2
  go_ret
  refine ⟨rfl, ⟨hbB, _, _, heap_setCell_any w2 b 1 _ _ _ _ hb2, .inr rfl, ?_⟩, ?_⟩
  · have := World.ownsRow.kept hown' (gb_set (b := w2) ⟨rfl, rfl, rfl, Nat.le_refl _, fun _ _ _ => rfl⟩ 1 (.slice (some ⟨g, 0, none⟩) (l.length + 1) cap)) (row := some b) (.inr fun e => ?_)
    · simpa [u8V] using this
    · rcases hown'.2 with ⟨h1, _⟩ | ⟨g2, cap2, cur2, h1, e1, _⟩
      · cases h1
      · rw [h1] at e; simp [Value.ownBlock] at e; omega
  · refine (KB.of_gb hg1 (fun k e => .inl (by cases e; rfl)) hs).trans ((KB.of_gb (World.grownBy_alloc w1 _ none) (fun k e => by cases e) (by omega)).trans ((KB.of_gb hgrow (fun k e => .inr (hvB k e)) (by simp; omega)).trans ?_))
    exact KB.of_gb (gb_set (b := w2) ⟨rfl, rfl, rfl, Nat.le_refl _, fun _ _ _ => rfl⟩ 1 _) (fun k e => .inl (by cases e; rfl)) (by have := hgrow.size; simp at this; omega)
set_option maxRecDepth 100000 in
set_option maxHeartbeats 4000000 in
theorem boStr (B b : Nat) (l : List UInt8) (s : List UInt8) (w : World) (h : BO B b l w) (hs : B ≤ w.heap.size) (hl : l.length + s.length ≤ 140737488355328) :
    Calls Tryz.prog 76 #[.pointer (some ⟨b, 0, none⟩), .string ⟨s.toArray⟩] w fun e w' => e = .returned (.tuple #[.int .i64 s.length, .nilIface]) ∧ BO B b (l ++ s) w' ∧ KB B b w w' := by
  obtain ⟨i0, hi, hz0, hz1, hz2⟩ := info_parts u8_info
  have hbB := h.1
  go_enter Tryz.func76, Tryz.ntmps76
  go_wp2_with fail
  refine (copyCheck_bo B b l w h).mono ?_
  rintro e w1 ⟨rfl, ⟨v, hbk, hown⟩, hg1, hz⟩
  clear h
  have c1 : w1.cell? ⟨b, 1, none⟩ = some v := by rw [cell_of_row _ _ _ _ _ _ hbk]; rfl
  have hlt : b < w1.heap.size := lt_of_heap hbk
  have hs1 : B ≤ w1.heap.size := by omega
  clear hz
  go_upto_region 2 with (fail)
  iterate 19 go_step
  refine Lib.wpList_append_own_string _ rfl (.tmp 12) (.tmp 13) 88 9 rfl B 5 i0 Tryz.underlying88 Tryz.underlying9 hi hz0 hz1 hz2 _ _ _ rfl hown ⟨s.toArray⟩ rfl ?c3 ?c4 hs1 ?_
  case c3 => show l.length + s.length ≤ maxLen; unfold maxLen; omega
  case c4 => show l.length + s.length ≤ _; omega
  intro v' w2 hown' hgrow _
  have hne : v.ownBlock ≠ some b := by
    rcases hown.2 with ⟨rfl, _⟩ | ⟨g, cap, cur, rfl, e1, _⟩
    · intro e; cases e
    · intro e; simp [Value.ownBlock] at e; omega
  have hvB : ∀ k, v.ownBlock = some k → B ≤ k := by
    intro k hk
    rcases hown.2 with ⟨rfl, _⟩ | ⟨g, cap, cur, rfl, e1, _⟩
    · cases hk
    · simp [Value.ownBlock] at hk; omega
  have hb2 : w2.heap[b]? = some (.cells #[.pointer (some ⟨b, 0, none⟩), v] 108 (0, 0)) := by
    rw [hgrow.block b hlt (fun e => hne e.symm)]
    exact hbk
  have d0 : w2.cell? ⟨b, 0, none⟩ = some (.pointer (some ⟨b, 0, none⟩)) := by rw [cell_of_row _ _ _ _ _ _ hb2]; rfl
  have d1 : w2.cell? ⟨b, 1, none⟩ = some v := by rw [cell_of_row _ _ _ _ _ _ hb2]; rfl
  have f1 : w2.frozen? ⟨b, 1, none⟩ = false := frozen_of_row w2 b 1 _ _ hb2
  have hone : ∃ A n c, v' = .slice A n c := by
    rcases hown'.2 with ⟨h1, _⟩ | ⟨g, cap, cur, h1, _⟩
    · exact ⟨_, _, _, h1⟩
    · exact ⟨_, _, _, h1⟩
  have hvo : v'.ownBlock ≠ some b := by
    rcases hown'.2 with ⟨rfl, _⟩ | ⟨g, cap, cur, rfl, e1, _⟩
    · intro e; cases e
    · intro e; simp [Value.ownBlock] at e; omega
  obtain ⟨A, n, cc, rfl⟩ := hone
  go_wp2
  go_ret2
  refine ⟨rfl, ⟨hbB, _, _, heap_setCell_any w2 b 1 _ _ _ _ hb2, .inr rfl, ?_⟩, ?_⟩
  · have := World.ownsRow.kept hown' (gb_set (b := w2) ⟨rfl, rfl, rfl, Nat.le_refl _, fun _ _ _ => rfl⟩ 1 (.slice A n cc)) (row := some b) (.inr hvo)
    have he : Lib.strCells ⟨s.toArray⟩ = s.map u8V := by rw [strCells_list]; rfl
    have hz : (ByteArray.mk s.toArray).size = s.length := rfl
    rw [he, hz] at this
    simpa using this
  · refine (KB.of_gb hg1 (fun k e => .inl (by cases e; rfl)) hs).trans ((KB.of_gb hgrow (fun k e => .inr (hvB k e)) hs1).trans ?_)
    exact KB.of_gb (gb_set (b := w2) ⟨rfl, rfl, rfl, Nat.le_refl _, fun _ _ _ => rfl⟩ 1 _) (fun k e => .inl (by cases e; rfl)) (by have := hgrow.size; omega)
end Go.Proofs.YtmmoenbmgcplkaaGreatDoor
set_option linter.unusedVariables false
set_option linter.unusedSimpArgs false
namespace Go.Proofs.YtmmoenbmgcplkaaGreatDoor
open Go Go.RowKit
def signB (b : UInt8) : Bool := b == 45 || b == 46 || b == 95 || b == 126
def freeL (sl : Bool) (b : UInt8) : Bool := letterL b || signB b || (b == 47 && !sl)
theorem sign_index (b : UInt8) : decide (0 ≤ Lib.indexByte [45, 46, 95, 126] b) = signB b := by
  have h : ∀ n : Fin 256, decide (0 ≤ Lib.indexByte [45, 46, 95, 126] n.val.toUInt8) = signB n.val.toUInt8 := by decide +kernel
  have := h ⟨b.toNat, b.toNat_lt⟩
  simpa using this
set_option maxRecDepth 100000 in
set_option maxHeartbeats 4000000 in
theorem Encode1_any (b : UInt8) (k : Nat) (sl : Bool) (w : World) (hc : w.cell? ⟨k, 0, none⟩ = some (.bool sl)) :
    Calls Tryz.prog 113 #[.int .u8 b.toNat, .pointer (some ⟨k, 0, none⟩)] w fun e w' => e = .returned (.bool (freeL sl b)) ∧ w' = w := by
  have hb := b.toNat_lt
  have hi : Lib.indexByte [45, 46, 95, 126] ((b.toNat : Int).toNat.toUInt8) = Lib.indexByte [45, 46, 95, 126] b := by simp
  have hs := sign_index b
  obtain ⟨z, hz⟩ : ∃ z, Lib.indexByte [45, 46, 95, 126] b = z := ⟨_, rfl⟩
  rw [hz] at hi hs
  go_enter Tryz.func113, Tryz.ntmps113
  rcases hl : letterL b with _ | _
  · rcases hz0 : signB b with _ | _
    · have hz1 : decide (0 ≤ z) = false := by rw [hs, hz0]
      go_wp2_with fail
      refine (letter_any _ _).mono ?_
      rintro e w1 ⟨rfl, rfl⟩
      rw [hl]
      go_wp2_with fail
      refine (Tryz.strings_IndexByte ⟨#[45, 46, 95, 126]⟩ _ _).mono ?_
      rintro e w1 ⟨rfl, rfl⟩
      have hi' : Lib.indexByte (⟨#[45, 46, 95, 126]⟩ : ByteArray).data.toList ((b.toNat : Int).toNat.toUInt8) = z := hi
      rw [hi']
      go_wp2_with fail
      all_goals
        go_ret
        refine ⟨?_, rfl⟩
        show Ending.returned (.bool _) = .returned (.bool _)
        refine congrArg _ (congrArg _ ?_)
        first
          | (rename (b.toNat : Int) = 47 => h47
             have h : b = 47 := UInt8.toNat_inj.mp (by simpa using (by omega : b.toNat = 47))
             subst h
             simp [freeL, hl, hz0])
          | (rename ¬ (b.toNat : Int) = 47 => h47
             have h : (b == 47) = false := by simp; intro h; subst h; exact h47 rfl
             simp [freeL, hl, hz0, h])
          | simp [freeL, hl, hz0]
    · have hz1 : decide (0 ≤ z) = true := by rw [hs, hz0]
      go_wp2_with fail
      refine (letter_any _ _).mono ?_
      rintro e w1 ⟨rfl, rfl⟩
      rw [hl]
      go_wp2_with fail
      refine (Tryz.strings_IndexByte ⟨#[45, 46, 95, 126]⟩ _ _).mono ?_
      rintro e w1 ⟨rfl, rfl⟩
      have hi' : Lib.indexByte (⟨#[45, 46, 95, 126]⟩ : ByteArray).data.toList ((b.toNat : Int).toNat.toUInt8) = z := hi
      rw [hi']
      go_wp2_with fail
      all_goals
        go_ret
        refine ⟨?_, rfl⟩
        show Ending.returned (.bool _) = .returned (.bool _)
        refine congrArg _ (congrArg _ ?_)
        first
          | (rename (b.toNat : Int) = 47 => h47
             have h : b = 47 := UInt8.toNat_inj.mp (by simpa using (by omega : b.toNat = 47))
             subst h
             simp [freeL, hl, hz0])
          | (rename ¬ (b.toNat : Int) = 47 => h47
             have h : (b == 47) = false := by simp; intro h; subst h; exact h47 rfl
             simp [freeL, hl, hz0, h])
          | simp [freeL, hl, hz0]
  · have hz0 : True := trivial
    go_wp2_with fail
    refine (letter_any _ _).mono ?_
    rintro e w1 ⟨rfl, rfl⟩
    rw [hl]
    go_wp2_with fail
    all_goals
      go_ret
      refine ⟨?_, rfl⟩
      show Ending.returned (.bool _) = .returned (.bool _)
      refine congrArg _ (congrArg _ ?_)
      first
        | (rename (b.toNat : Int) = 47 => h47
           have h : b = 47 := UInt8.toNat_inj.mp (by simpa using (by omega : b.toNat = 47))
           subst h
           simp [freeL, hl, hz0])
        | (rename ¬ (b.toNat : Int) = 47 => h47
           have h : (b == 47) = false := by simp; intro h; subst h; exact h47 rfl
           simp [freeL, hl, hz0, h])
        | simp [freeL, hl, hz0]
end Go.Proofs.YtmmoenbmgcplkaaGreatDoor
