/- Texts of this proof, laid into one: Base, TiedN, ErA, ErW, Gx, Gy, Byt. -/
import Derived.Test.YtcbepjepcabllaaGreatDoorProg
import Derived.WalkKit
import Derived.Lib.Hide
import Derived.BigQuiet
import Derived.Laws.IdiomStrings
import Derived.Test.YtcbepjepcabllaaGreatDoorRows
import Derived.ProofKit
import Derived.LaidMore
import Derived.LaidSub
import Derived.LaidHandle
import Derived.MakeChecks
import Derived.OpenShut
import Derived.Stop.Joined
import Derived.Outline
import Derived.LaidEql
import Derived.Stop.Asserts
import Derived.RowKitTokens
import Derived.Laws.Rows
import Derived.Maps.AppendAt
import Derived.Lib.BufferRead
/- Base: worlds that grow only (Q), a region that draws its order whose calls may lay new memory, texts made of bytes. -/
namespace Go.Proofs.YtcbepjepcabllaaGreatDoor
open Go Go.RowKit

/-- w' is w with new blocks behind it, and draws: what was there is as it was. -/
def Q (w w' : World) : Prop := Below w.heap.size w w'
theorem Q.refl (w : World) : Q w w := Below.refl _ _
theorem Q.trans {a b c : World} (h : Q a b) (k : Q b c) : Q a c := Below.trans h (Below.mono k h.size)
theorem Q.drew {a b : World} (h : Q a b) : Q a b.drew := Below.drew h
theorem Q.drewN {a b : World} (h : Q a b) (n : Nat) : Q a (b.drewN n) := ⟨h.os, h.tape, h.output, h.size, h.block⟩
theorem Q.alloc {a b : World} (h : Q a b) (o : Obj) : Q a (b.alloc o) := Below.alloc h h.size o
theorem Q.setNew {a b : World} (h : Q a b) {p : Addr} (hp : a.heap.size ≤ p.block) (v : Value) : Q a (b.setCell p v) := Below.setCell h hp v
theorem Q.below {a b c : World} (h : Q a b) (k : Below a.heap.size b c) : Q a c := Below.trans h k
theorem Q.size {a b : World} (h : Q a b) : a.heap.size ≤ b.heap.size := Below.size h
theorem lt_of_cell {w : World} {a : Addr} {v : Value} (h : w.cell? a = some v) : a.block < w.heap.size := by
  unfold World.cell? at h
  rcases Nat.lt_or_ge a.block w.heap.size with h1 | h1
  · exact h1
  · rw [Array.getElem?_eq_none h1] at h; cases h
theorem Q.cell {a b : World} (h : Q a b) {p : Addr} {v : Value} (hp : a.cell? p = some v) : b.cell? p = some v := (Below.cell h (lt_of_cell hp)).trans hp
theorem Q.block {a b : World} (h : Q a b) {k : Nat} {o : Obj} (hp : a.heap[k]? = some o) : b.heap[k]? = some o := by
  rcases Nat.lt_or_ge k a.heap.size with h1 | h1
  · exact (Below.block h k h1).trans hp
  · rw [Array.getElem?_eq_none h1] at hp; cases hp

structure QW (w : World) where
  val : World
  le : Q w val
instance (w : World) : Nonempty (QW w) := ⟨⟨w, Q.refl w⟩⟩
theorem QW.cell {w : World} (m : QW w) {p : Addr} {v : Value} (hp : w.cell? p = some v) : m.val.cell? p = some v := m.le.cell hp
@[go_sem, simp] theorem QW.same {w : World} {x v : Value} : (∀ m : QW w, m.val = m.val ∧ x = v) ↔ x = v := by
  constructor
  · intro h; exact (h ⟨w, Q.refl w⟩).2
  · intro h m; exact ⟨rfl, h⟩

/-- A region that draws its order: every operation hands back one value in every world that w grows to. -/
theorem wp_region_q {P : Program} {id : Nat} {R : Exit → Act → World → Prop} {a : Act} {w : World} {l : List Oper} (hm : P.follows .mixedOrders = true) (hB : Region.lexB .any l.toArray = true)
    (h : wpQuiet P l.toArray (fun w' => ∃ m : QW w, w' = m.val) (fun a' => ∀ w', (∃ m : QW w, w' = m.val) → R .normal a' w') l a) : (Code.region id l.toArray true).wp P R a w :=
  wp_region_quiet (C := fun w' => ∃ m : QW w, w' = m.val) hm hB ⟨⟨w.drew, (Q.refl w).drew⟩, rfl⟩ (by simpa using h)

/-- A contract met within such a region. -/
theorem calls_q {P : Program} {f : FuncId} {args : Array Value} {w : World} {m : QW w} {v : Value}
    (h : Calls P f args m.val fun e w' => e = .returned v ∧ Q m.val w') : Calls P f args m.val fun e w'' => e = .returned v ∧ ∃ k : QW w, w'' = k.val :=
  h.mono fun _ w' ⟨he, hq⟩ => ⟨he, ⟨w', m.le.trans hq⟩, rfl⟩
theorem calls_qs {P : Program} {f : FuncId} {args : Array Value} {w : World} {m : QW w} {v : Value}
    (h : Calls P f args m.val fun e w' => e = .returned v ∧ m.val = w') : Calls P f args m.val fun e w'' => e = .returned v ∧ ∃ k : QW w, w'' = k.val :=
  h.mono fun _ _ ⟨he, hq⟩ => ⟨he, m, hq.symm⟩

theorem ret_eq {a b : Value} (h : a = b) : Ending.returned a = Ending.returned b := by rw [h]
theorem ret_int {k : IntKind} {a b : Int} (h : a = b) : Ending.returned (.int k a) = .returned (.int k b) := by rw [h]

/-- A byte of a number. -/
def byteOf (n : Int) : UInt8 := UInt8.ofNat n.toNat
theorem byteOf_int (n : Int) (h0 : 0 ≤ n) (h1 : n < 256) : ((byteOf n).toNat : Int) = n := by
  unfold byteOf; simp; omega
theorem byteOf_toNat (u : UInt8) : byteOf (u.toNat : Int) = u := by unfold byteOf; simp

/-- string([]byte{..}) of a row that has just been laid. -/
theorem conv_bytes {P : Program} (w : World) (src dst e : TypeId) (cap : Nat) (ns : List Int) (hs : P.underlying src = some (.slice e)) (he : P.underlying e = some (.int .u8)) (hd : P.underlying dst = some .string)
    (hb : ∀ n ∈ ns, 0 ≤ n ∧ n < 256) :
    (convert src dst (.slice (some ⟨w.heap.size, 0, none⟩) ns.length cap)).run P (w.alloc (.cells (ns.map (Value.int .u8)).toArray e)) =
      .ok (.string ⟨(ns.map byteOf).toArray⟩) (w.alloc (.cells (ns.map (Value.int .u8)).toArray e)) := by
  have h := run_convert_bytes_back (P := P) (w.alloc (.cells (ns.map (Value.int .u8)).toArray e)) src dst e ⟨w.heap.size, 0, none⟩ cap (ns.map byteOf) hs he hd
  simp only [List.length_map] at h
  apply h
  intro i hi
  have e1 : (Addr.add ⟨w.heap.size, 0, none⟩ i) = ⟨w.heap.size, i, none⟩ := by unfold Addr.add; split <;> simp_all
  rw [e1]
  have e2 : (w.alloc (.cells (ns.map (Value.int .u8)).toArray e)).heap[w.heap.size]? = some (.cells (ns.map (Value.int .u8)).toArray e) := (MapKept.heap_alloc w _).1
  unfold World.cell?
  rw [e2]
  have h2 := hb ns[i] (List.getElem_mem hi)
  simp only [Option.isSome_none, Bool.false_eq_true, if_false, List.getElem?_toArray, List.getElem?_map, List.getElem_map, List.getElem?_eq_getElem hi, Option.map_some]
  rw [byteOf_int _ h2.1 h2.2]
theorem conv_bytes4 {P : Program} (w : World) (src dst e : TypeId) (cap : Nat) (a b c d : Int) (hs : P.underlying src = some (.slice e)) (he : P.underlying e = some (.int .u8)) (hd : P.underlying dst = some .string)
    (ha : 0 ≤ a ∧ a < 256) (hb : 0 ≤ b ∧ b < 256) (hc : 0 ≤ c ∧ c < 256) (hd' : 0 ≤ d ∧ d < 256) :
    (convert src dst (.slice (some ⟨w.heap.size, 0, none⟩) 4 cap)).run P (w.alloc (.cells #[.int .u8 a, .int .u8 b, .int .u8 c, .int .u8 d] e)) =
      .ok (.string ⟨#[byteOf a, byteOf b, byteOf c, byteOf d]⟩) (w.alloc (.cells #[.int .u8 a, .int .u8 b, .int .u8 c, .int .u8 d] e)) :=
  conv_bytes w src dst e cap [a, b, c, d] hs he hd (by intro n hn; simp at hn; rcases hn with rfl | rfl | rfl | rfl <;> assumption)

/-! Texts as lists of bytes: what the walk makes of their operations. -/
/-- The byte at a place. -/
def gB (l : List UInt8) (i : Nat) : UInt8 := l.getD i 0
/-- The bytes from i up to j. -/
def sub (l : List UInt8) (i j : Nat) : List UInt8 := (l.take j).drop i
@[go_sem] theorem length_sub (l : List UInt8) (i j : Nat) : (sub l i j).length = min j l.length - i := by
  simp [sub]
theorem gB_lt (l : List UInt8) (i : Nat) : ((gB l i).toNat : Int) < 256 := by have := (gB l i).toNat_lt; omega
theorem gB_nn (l : List UInt8) (i : Nat) : 0 ≤ ((gB l i).toNat : Int) := by omega

section
variable {P : Program} (w : World)
@[go_sem 2000] theorem run_index_list (t : TypeId) (l : List UInt8) (k : IntKind) (i : Int) (h : P.underlying t = some .string) :
    (Instr.index t (.string ⟨l.toArray⟩) (.int k i)).run P w =
      if 0 ≤ i ∧ i < l.length then .ok (.int .u8 ((gB l i.toNat).toNat : Int)) w else (boundsPanic k i l.length .index).run P w := by
  rw [run_index_string w t ⟨l.toArray⟩ k i h]
  have hs : (ByteArray.mk l.toArray).size = l.length := rfl
  by_cases hi : 0 ≤ i ∧ i < l.length
  · have hi' : 0 ≤ i ∧ i < ((ByteArray.mk l.toArray).size : Int) := hi
    rw [dif_pos hi', if_pos hi]
    have h2 : i.toNat < l.length := by omega
    have e : gB l i.toNat = l[i.toNat] := by unfold gB; simp [List.getD, h2]
    rw [e]; rfl
  · have hi' : ¬ (0 ≤ i ∧ i < ((ByteArray.mk l.toArray).size : Int)) := hi
    rw [dif_neg hi', if_neg hi]; rfl

theorem extract_list (l : List UInt8) (i j : Nat) : (ByteArray.mk l.toArray).extract i j = ⟨(sub l i j).toArray⟩ := by
  apply ByteArray.ext
  simp only [ByteArray.data_extract, sub]
  rw [← Array.toList_inj]
  simp
  first | rfl | rw [List.drop_take] | skip

theorem run_slice_list0 (t : TypeId) (l : List UInt8) (k k' : IntKind) (i j : Int) (h : P.underlying t = some .string)
    (h0 : 0 ≤ i) (h1 : i ≤ j) (h2 : j ≤ l.length) :
    (Instr.slice t (.string ⟨l.toArray⟩) (some (.int k i)) (some (.int k' j)) none).run P w = .ok (.string ⟨(sub l i.toNat j.toNat).toArray⟩) w := by
  rw [run_slice_string w t ⟨l.toArray⟩ k k' i j h h0 h1 h2, extract_list]
theorem run_slice_list_from0 (t : TypeId) (l : List UInt8) (k : IntKind) (i : Int) (h : P.underlying t = some .string)
    (h0 : 0 ≤ i) (h2 : i ≤ l.length) :
    (Instr.slice t (.string ⟨l.toArray⟩) (some (.int k i)) none none).run P w = .ok (.string ⟨(sub l i.toNat l.length).toArray⟩) w := by
  rw [run_slice_string_from_if w t ⟨l.toArray⟩ k i h]
  have hs : (ByteArray.mk l.toArray).size = l.length := rfl
  simp only [hs]
  rw [if_pos (by omega), extract_list]
theorem run_slice_list_to0 (t : TypeId) (l : List UInt8) (k : IntKind) (j : Int) (h : P.underlying t = some .string)
    (h0 : 0 ≤ j) (h2 : j ≤ l.length) :
    (Instr.slice t (.string ⟨l.toArray⟩) none (some (.int k j)) none).run P w = .ok (.string ⟨(sub l 0 j.toNat).toArray⟩) w := by
  rw [run_slice_string_to_if w t ⟨l.toArray⟩ k j h]
  have hs : (ByteArray.mk l.toArray).size = l.length := rfl
  simp only [hs]
  rw [if_pos (by omega), extract_list]
theorem run_add_list0 (a b : List UInt8) (h : (a.length : Int) + b.length ≤ 9223372036854775807) :
    (Op.stringOp .add ⟨a.toArray⟩ ⟨b.toArray⟩).run P w = .ok (.string ⟨(a ++ b).toArray⟩) w := by
  rw [run_string_add_sum w _ _ (by simp [ByteArray.size]; omega), ByteArray.mk_append_mk]

/-- What is run where the bounds do not hold (never opened). -/
def elseRun {α : Type} (P : Program) (s : Sem α) (w : World) : Result α := s.run P w
@[go_sem 2000] theorem run_slice_list (t : TypeId) (l : List UInt8) (k k' : IntKind) (i j : Int) (h : P.underlying t = some .string) :
    (Instr.slice t (.string ⟨l.toArray⟩) (some (.int k i)) (some (.int k' j)) none).run P w =
      if 0 ≤ i ∧ i ≤ j ∧ j ≤ l.length then .ok (.string ⟨(sub l i.toNat j.toNat).toArray⟩) w
      else elseRun P (Instr.slice t (.string ⟨l.toArray⟩) (some (.int k i)) (some (.int k' j)) none) w := by
  split
  · next hc => exact run_slice_list0 w t l k k' i j h hc.1 hc.2.1 hc.2.2
  · rfl
@[go_sem 2000] theorem run_slice_list_from (t : TypeId) (l : List UInt8) (k : IntKind) (i : Int) (h : P.underlying t = some .string) :
    (Instr.slice t (.string ⟨l.toArray⟩) (some (.int k i)) none none).run P w =
      if 0 ≤ i ∧ i ≤ l.length then .ok (.string ⟨(sub l i.toNat l.length).toArray⟩) w
      else elseRun P (Instr.slice t (.string ⟨l.toArray⟩) (some (.int k i)) none none) w := by
  split
  · next hc => exact run_slice_list_from0 w t l k i h hc.1 hc.2
  · rfl
@[go_sem 2000] theorem run_slice_list_to (t : TypeId) (l : List UInt8) (k : IntKind) (j : Int) (h : P.underlying t = some .string) :
    (Instr.slice t (.string ⟨l.toArray⟩) none (some (.int k j)) none).run P w =
      if 0 ≤ j ∧ j ≤ l.length then .ok (.string ⟨(sub l 0 j.toNat).toArray⟩) w
      else elseRun P (Instr.slice t (.string ⟨l.toArray⟩) none (some (.int k j)) none) w := by
  split
  · next hc => exact run_slice_list_to0 w t l k j h hc.1 hc.2
  · rfl
@[go_sem 2000] theorem run_add_list (a b : List UInt8) :
    (Op.stringOp .add ⟨a.toArray⟩ ⟨b.toArray⟩).run P w =
      if (a.length : Int) + b.length ≤ 9223372036854775807 then .ok (.string ⟨(a ++ b).toArray⟩) w else elseRun P (Op.stringOp .add ⟨a.toArray⟩ ⟨b.toArray⟩) w := by
  split
  · next hc => exact run_add_list0 w a b hc
  · rfl
end
end Go.Proofs.YtcbepjepcabllaaGreatDoor
/- What the rows list of package-level variables, and what it gives the walks. -/
set_option linter.unusedVariables false
namespace Go.Proofs.YtcbepjepcabllaaGreatDoor
open Go Go.RowKit
def laid3 : List (String × DataW Unit) := [("errors.errorType", Rows.laid_errors_errorType)]
theorem door_met (os : Os) (args : Array Value) : laidMetH Tryz.prog laid3 ((World.doorLaid Tryz.prog 400 os).forCall (fun _ _ => 0) ⟨#[], args, []⟩).memory :=
  laidMetH_of_parts (laidMet_nil _ _) (by kernel_rfl)
/-- The variable errors.errorType holds error's own type. -/
def ErrT (W : World) : Prop := W.cell? ⟨0, 0, none⟩ = some (.iface 138 (.agg #[.pointer (some ⟨2, 37, none⟩)]))
theorem etJ : Tryz.prog.globalNamed "errors.errorType" = some 0 := by kernel_rfl
theorem rtJ : (Tryz.prog.cutTypes.find? (·.1 == "internal/reflectlite.rtype")).map (·.2) = some 138 := by kernel_rfl
theorem oneRowJ : ((List.range Tryz.prog.types.size).filter fun t => Tryz.prog.rowNamed t [101, 114, 114, 111, 114]) = [37] := by kernel_rfl
theorem err_of_laid {W : World} (h : laidMetH Tryz.prog laid3 W) : ErrT W := by
  have h' : laidMet Tryz.prog [] W ∧ handlesMet Tryz.prog laid3 W := h
  obtain ⟨name, u, ty, e1, e2, e3, e4, e5⟩ := h'.2 _ (List.mem_singleton.2 rfl)
  have en : name = [101, 114, 114, 111, 114] := (Option.some.inj e1).symm
  subst en
  obtain rfl := Option.some.inj (rtJ.symm.trans e2)
  have hm : ty ∈ (List.range Tryz.prog.types.size).filter fun t => Tryz.prog.rowNamed t [101, 114, 114, 111, 114] := List.mem_filter.2 ⟨List.mem_range.2 e3, e4⟩
  rw [oneRowJ] at hm
  obtain rfl := List.mem_singleton.1 hm
  have hh : typeHandle Tryz.prog 37 = .pointer (some ⟨2, 37, none⟩) := by kernel_rfl
  rw [hh] at e5
  unfold ErrT
  simpa using World.var?_cell etJ e5 0
theorem ErrT.q {W W' : World} (h : ErrT W) (hq : Q W W') : ErrT W' := hq.cell h
end Go.Proofs.YtcbepjepcabllaaGreatDoor
/- Errors: what fault makes. -/
set_option linter.unusedVariables false
namespace Go.Proofs.YtcbepjepcabllaaGreatDoor
open Go Go.RowKit
/-- A *api.Fault of a code at a place, of nothing inner, in a block of its own. -/
def FaultAt (w : World) (b : Nat) (c a : Int) : Prop := w.heap[b]? = some (.cells #[.int .i64 c, .int .i64 a, .nilIface] 87 (0, 0))
theorem FaultAt.q {w w' : World} {b : Nat} {c a : Int} (h : FaultAt w b c a) (hq : Q w w') : FaultAt w' b c a := hq.block h
theorem FaultAt.cell0 {w : World} {b : Nat} {c a : Int} (h : FaultAt w b c a) : w.cell? ⟨b, 0, none⟩ = some (.int .i64 c) := by
  unfold FaultAt at h; simp [World.cell?, h]
theorem FaultAt.cell1 {w : World} {b : Nat} {c a : Int} (h : FaultAt w b c a) : w.cell? ⟨b, 1, none⟩ = some (.int .i64 a) := by
  unfold FaultAt at h; simp [World.cell?, h]
theorem FaultAt.cell2 {w : World} {b : Nat} {c a : Int} (h : FaultAt w b c a) : w.cell? ⟨b, 2, none⟩ = some .nilIface := by
  unfold FaultAt at h; simp [World.cell?, h]

set_option maxHeartbeats 400000 in
theorem fault_any (c a : Int) (w : World) :
    Calls Tryz.prog 59 #[.int .i64 c, .int .i64 a] w fun e w' => (∃ b, e = .returned (.iface 84 (.pointer (some ⟨b, 0, none⟩))) ∧ FaultAt w' b c a) ∧ Q w w' := by
  go_enter Tryz.func59, Tryz.ntmps59
  go_wp2
  go_ret
  exact ⟨⟨w.heap.size, rfl, (MapKept.heap_alloc w _).1⟩, (Q.refl _).alloc _⟩
/-- What an error says: 0: none. -/
def ErrIs (w : World) (v : Value) (c a : Int) : Prop := (c = 0 ∧ v = .nilIface) ∨ (c ≠ 0 ∧ ∃ b, v = .iface 84 (.pointer (some ⟨b, 0, none⟩)) ∧ FaultAt w b c a)
theorem ErrIs.q {w w' : World} {v : Value} {c a : Int} (h : ErrIs w v c a) (hq : Q w w') : ErrIs w' v c a := by
  rcases h with h | ⟨h0, b, h1, h2⟩
  · exact .inl h
  · exact .inr ⟨h0, b, h1, h2.q hq⟩
end Go.Proofs.YtcbepjepcabllaaGreatDoor
/- errors.As at a **api.Fault, of a *api.Fault. (Turned from the guide's worked toy.) -/
set_option linter.unusedVariables false
set_option linter.unusedSimpArgs false
namespace Go.Proofs.YtcbepjepcabllaaGreatDoor
open Go Go.RowKit Go.Extern.Stop Go.Stop Go.Extern
theorem ras_valueOf27 (t : Addr) (w : World) : (ReflectliteValue.unpack (.iface 90 (.pointer (some t)))).run Tryz.prog w
    = .ok (.agg #[.pointer (some ⟨2, 90, none⟩), .pointer (some ⟨w.heap.size, 0, none⟩), .int .u64 150]) (w.alloc (.cells #[.pointer (some t)] 90)) := by kernel_rfl
theorem ras_type27 (a : Addr) (w : World) : (ReflectliteValue.methodAny (ReflectliteValue.valueError "reflectlite.Value.Type" 0) (fun t _ _ _ => ReflectliteType.toType t) #[.agg #[.pointer (some ⟨2, 90, none⟩), .pointer (some a), .int .u64 150]]).run Tryz.prog w
    = .ok (.iface 138 (.agg #[.pointer (some ⟨2, 90, none⟩)])) w := by kernel_rfl
theorem ras_methodKind (h : Value) (w : World) : (Go.method 286 138 (.agg #[h]) "Kind").run Tryz.prog w = .ok (117, h) w := by kernel_rfl
theorem ras_kind27 (w : World) : ((ReflectliteType.abiMethod fun t => Functor.map (fun a : Nat => Value.int IntKind.u8 (a : Int)) (Rtype.kind t)) #[.pointer (some ⟨2, 90, none⟩)]).run Tryz.prog w = .ok (.int .u8 22) w := by kernel_rfl
theorem ras_kind25 (w : World) : ((ReflectliteType.abiMethod fun t => Functor.map (fun a : Nat => Value.int IntKind.u8 (a : Int)) (Rtype.kind t)) #[.pointer (some ⟨2, 84, none⟩)]).run Tryz.prog w = .ok (.int .u8 22) w := by kernel_rfl

theorem rlm (z : Sem Value) (f : TypeId → Addr → Nat → Nat → Sem Value) (v : Value) :
    ReflectliteValue.method z f #[v] = (do match ← ReflectliteValue.parts v with | none => z | some (t, a, fl) => f t a fl (fl % 32)) := rfl
theorem ras_parts27 (a : Addr) (w : World) : (ReflectliteValue.parts (.agg #[.pointer (some ⟨2, 90, none⟩), .pointer (some a), .int .u64 150])).run Tryz.prog w = .ok (some (90, a, 150)) w := by kernel_rfl
theorem ras_isNil27 (a p : Addr) (W : World) (ha : W.cell? a = some (.pointer (some p))) :
    (ReflectliteValue.method (ReflectliteValue.valueError "reflectlite.Value.IsNil" 0) ReflectliteValue.isNil #[.agg #[.pointer (some ⟨2, 90, none⟩), .pointer (some a), .int .u64 150]]).run Tryz.prog W = .ok (.bool false) W := by
  rw [rlm]
  simp only [Sem.run_bind, ras_parts27, Result.andThen]
  simp [ReflectliteValue.isNil, loadVar, isAgg, underlying, Tryz.underlying90, ha, Result.andThen]

theorem ras_methodElem (h : Value) (w : World) : (Go.method 286 138 (.agg #[h]) "Elem").run Tryz.prog w = .ok (132, .agg #[h]) w := by kernel_rfl
theorem ras_methodImplements (h : Value) (w : World) : (Go.method 286 138 (.agg #[h]) "Implements").run Tryz.prog w = .ok (133, .agg #[h]) w := by kernel_rfl
theorem ras_methodAssignableTo (h : Value) (w : World) : (Go.method 286 138 (.agg #[h]) "AssignableTo").run Tryz.prog w = .ok (130, .agg #[h]) w := by kernel_rfl
theorem ras_elem27 (w : World) : (ReflectliteType.method ReflectliteType.elem #[.agg #[.pointer (some ⟨2, 90, none⟩)]]).run Tryz.prog w = .ok (.iface 138 (.agg #[.pointer (some ⟨2, 84, none⟩)])) w := by kernel_rfl
theorem ras_implements25 (w : World) : (ReflectliteType.relation "Implements" ReflectliteType.implements_ #[.agg #[.pointer (some ⟨2, 84, none⟩)], .iface 138 (.agg #[.pointer (some ⟨2, 37, none⟩)])]).run Tryz.prog w = .ok (.bool true) w := by kernel_rfl
theorem ras_typeOf25 (v : Value) (w : World) : (ReflectliteType.typeOf #[.iface 84 v]).run Tryz.prog w = .ok (.iface 138 (.agg #[.pointer (some ⟨2, 84, none⟩)])) w := by kernel_rfl
theorem ras_assignable25 (w : World) : (ReflectliteType.relation "AssignableTo" ReflectliteType.assignableTo #[.agg #[.pointer (some ⟨2, 84, none⟩)], .iface 138 (.agg #[.pointer (some ⟨2, 84, none⟩)])]).run Tryz.prog w = .ok (.bool true) w := by kernel_rfl
theorem ras_valueOf25 (e : Addr) (w : World) : (ReflectliteValue.unpack (.iface 84 (.pointer (some e)))).run Tryz.prog w
    = .ok (.agg #[.pointer (some ⟨2, 84, none⟩), .pointer (some ⟨w.heap.size, 0, none⟩), .int .u64 150]) (w.alloc (.cells #[.pointer (some e)] 84)) := by kernel_rfl

theorem ras_elemOf27 (w : World) : (Rtype.elem? 90).run Tryz.prog w = .ok (some 84) w := by kernel_rfl
theorem ras_mk25 (p : Addr) (w : World) : (ReflectliteValue.mk 84 p ReflectliteValue.flagAddr).run Tryz.prog w = .ok (.agg #[.pointer (some ⟨2, 84, none⟩), .pointer (some p), .int .u64 406]) w := by kernel_rfl
theorem ras_elemV27 (a p : Addr) (W : World) (ha : W.cell? a = some (.pointer (some p))) :
    (ReflectliteValue.method (ReflectliteValue.valueError "reflectlite.Value.Elem" 0) ReflectliteValue.elem #[.agg #[.pointer (some ⟨2, 90, none⟩), .pointer (some a), .int .u64 150]]).run Tryz.prog W
      = .ok (.agg #[.pointer (some ⟨2, 84, none⟩), .pointer (some p), .int .u64 406]) W := by
  rw [rlm]
  simp only [Sem.run_bind, ras_parts27, Result.andThen]
  simp [ReflectliteValue.elem, loadVar, isAgg, underlying, Tryz.underlying90, ha, Result.andThen, ras_elemOf27, ras_mk25]
theorem rls (v x : Value) : ReflectliteValue.set #[v, x] = (do
    let (some (dst, a, fl), some (src, b, _)) := (← ReflectliteValue.parts v, ← ReflectliteValue.parts x)
      | unsupported (.noEntry "extern/(internal/reflectlite.Value).Set.zeroValue")
    if fl / ReflectliteValue.flagAddr % 2 == 0 then unsupported (.noEntry "extern/(internal/reflectlite.Value).Set.unaddressable")
    let val ← loadVar src b
    if ← Rtype.directlyAssignable dst src then storeVar dst a val
    else if ← Rtype.implements dst src then
      if (← Rtype.kind src) == 20 then
        match val with
        | .nilIface => unsupported (.noEntry "extern/reflectlite: a nil value of one interface type handed on as a value of another")
        | _ => storeVar dst a val
      else storeVar dst a (.iface src val)
    else panicString ("reflectlite.Set: value of type " ++ (← Rtype.spelt src) ++ " is not assignable to type " ++ (← Rtype.spelt dst))
    pure (.tuple #[])) := rfl
theorem ras_parts25a (a : Addr) (w : World) : (ReflectliteValue.parts (.agg #[.pointer (some ⟨2, 84, none⟩), .pointer (some a), .int .u64 406])).run Tryz.prog w = .ok (some (84, a, 406)) w := by kernel_rfl
theorem ras_parts25 (a : Addr) (w : World) : (ReflectliteValue.parts (.agg #[.pointer (some ⟨2, 84, none⟩), .pointer (some a), .int .u64 150])).run Tryz.prog w = .ok (some (84, a, 150)) w := by kernel_rfl
theorem ras_direct25 (w : World) : (Rtype.directlyAssignable 84 84).run Tryz.prog w = .ok true w := by kernel_rfl
theorem ras_size25 (w : World) : (sizeOf 84).run Tryz.prog w = .ok 1 w := by kernel_rfl
theorem ras_set25 (ta b e : Addr) (old : Value) (W : World) (hb : W.cell? b = some (.pointer (some e))) (ht : W.cell? ta = some old) (hf : W.frozen? ta = false) :
    (ReflectliteValue.set #[.agg #[.pointer (some ⟨2, 84, none⟩), .pointer (some ta), .int .u64 406], .agg #[.pointer (some ⟨2, 84, none⟩), .pointer (some b), .int .u64 150]]).run Tryz.prog W
      = .ok (.tuple #[]) (W.setCell ta (.pointer (some e))) := by
  rw [rls]
  simp only [Sem.run_bind, ras_parts25a, ras_parts25, Result.andThen]
  simp [ReflectliteValue.flagAddr, loadVar, isAgg, underlying, Tryz.underlying84, hb, Result.andThen, ras_direct25, storeVar, Value.cells, storeCells, Addr.add]
  rw [run_store Tryz.prog W ta _ _ (by rfl)]
  simp [ht, hf]

set_option maxHeartbeats 4000000 in
theorem as_hit (e t : Addr) (old : Value) (w : World) (hg : w.cell? ⟨0, 0, none⟩ = some (.iface 138 (.agg #[.pointer (some ⟨2, 37, none⟩)]))) (ht0 : w.cell? t = some old) (hf0 : w.frozen? t = false) :
    Calls Tryz.prog 49 #[.iface 84 (.pointer (some e)), .iface 90 (.pointer (some t))] w fun ev w' => ev = .returned (.bool true) ∧ w' = ((((w.alloc (.cells #[.pointer (some t)] 90)).alloc (.cells #[.pointer (some ⟨2, 90, none⟩), .pointer (some ⟨w.heap.size, 0, none⟩), .int .u64 150] 117)).alloc (.cells #[.pointer (some ⟨2, 90, none⟩), .pointer (some ⟨w.heap.size, 0, none⟩), .int .u64 150] 117)).alloc (.cells #[.pointer (some e)] 84)).setCell t (.pointer (some e)) := by
  have h6 := @run_callFunc_extern Tryz.prog 73 _ (fun args => ReflectliteValue.unpack (args.getD 0 (.tuple #[]))) Tryz.func73 (by kernel_rfl) (by kernel_rfl) (by kernel_rfl) (by kernel_rfl)
  have h7 := @run_callFunc_extern Tryz.prog 74 _ (ReflectliteValue.methodAny (ReflectliteValue.valueError "reflectlite.Value.Type" 0) (fun t _ _ _ => ReflectliteType.toType t)) Tryz.func74 (by kernel_rfl) (by kernel_rfl) (by kernel_rfl) (by kernel_rfl)
  have h8 := @run_callFunc_extern Tryz.prog 75 _ (ReflectliteValue.method (ReflectliteValue.valueError "reflectlite.Value.IsNil" 0) ReflectliteValue.isNil) Tryz.func75 (by kernel_rfl) (by kernel_rfl) (by kernel_rfl) (by kernel_rfl)
  have h27 := @run_callFunc_extern Tryz.prog 117 _ (ReflectliteType.abiMethod fun t => do pure (.int .u8 (← Rtype.kind t))) Tryz.func117 (by kernel_rfl) (by kernel_rfl) (by kernel_rfl) (by kernel_rfl)
  have h37 := @run_callFunc_extern Tryz.prog 132 _ (ReflectliteType.method ReflectliteType.elem) Tryz.func132 (by kernel_rfl) (by kernel_rfl) (by kernel_rfl) (by kernel_rfl)
  have h38 := @run_callFunc_extern Tryz.prog 133 _ (ReflectliteType.relation "Implements" ReflectliteType.implements_) Tryz.func133 (by kernel_rfl) (by kernel_rfl) (by kernel_rfl) (by kernel_rfl)
  have h10 := @run_callFunc_extern Tryz.prog 71 _ ReflectliteType.typeOf Tryz.func71 (by kernel_rfl) (by kernel_rfl) (by kernel_rfl) (by kernel_rfl)
  have h35 := @run_callFunc_extern Tryz.prog 130 _ (ReflectliteType.relation "AssignableTo" ReflectliteType.assignableTo) Tryz.func130 (by kernel_rfl) (by kernel_rfl) (by kernel_rfl) (by kernel_rfl)
  have h11 := @run_callFunc_extern Tryz.prog 88 _ (ReflectliteValue.method (ReflectliteValue.valueError "reflectlite.Value.Elem" 0) ReflectliteValue.elem) Tryz.func88 (by kernel_rfl) (by kernel_rfl) (by kernel_rfl) (by kernel_rfl)
  have h12 := @run_callFunc_extern Tryz.prog 89 _ ReflectliteValue.set Tryz.func89 (by kernel_rfl) (by kernel_rfl) (by kernel_rfl) (by kernel_rfl)
  have tO := ras_typeOf25
  have mA := ras_methodAssignableTo
  have a25 := ras_assignable25
  have v25 := ras_valueOf25
  have f6 := ras_valueOf27
  have f7 := ras_type27
  have mK := ras_methodKind
  have mE := ras_methodElem
  have mI := ras_methodImplements
  have k27 := ras_kind27
  have k25 := ras_kind25
  have e27 := ras_elem27
  have i25 := ras_implements25
  have n8 := ras_isNil27 ⟨w.heap.size, 0, none⟩ t ((w.alloc (.cells #[.pointer (some t)] 90)).alloc (.cells #[.pointer (some ⟨2, 90, none⟩), .pointer (some ⟨w.heap.size, 0, none⟩), .int .u64 150] 117)) (by simp)
  have hlt : 0 < w.heap.size := by
    rcases Nat.eq_zero_or_pos w.heap.size with h0 | h
    · simp [World.cell?, h0] at hg
    · exact h
  have hg2 : ((w.alloc (.cells #[.pointer (some t)] 90)).alloc (.cells #[.pointer (some ⟨2, 90, none⟩), .pointer (some ⟨w.heap.size, 0, none⟩), .int .u64 150] 117)).cell? ⟨0, 0, none⟩ = some (.iface 138 (.agg #[.pointer (some ⟨2, 37, none⟩)])) := by
    rw [World.cell?_alloc_lt _ _ ⟨0, 0, none⟩ (by simp), World.cell?_alloc_lt _ _ ⟨0, 0, none⟩ hlt]; exact hg
  have htl : t.block < w.heap.size := by
    rcases Nat.lt_or_ge t.block w.heap.size with h | h
    · exact h
    · simp [World.cell?, Array.getElem?_eq_none h] at ht0
  have el := ras_elemV27 ⟨w.heap.size, 0, none⟩ t (((w.alloc (.cells #[.pointer (some t)] 90)).alloc (.cells #[.pointer (some ⟨2, 90, none⟩), .pointer (some ⟨w.heap.size, 0, none⟩), .int .u64 150] 117)).alloc (.cells #[.pointer (some ⟨2, 90, none⟩), .pointer (some ⟨w.heap.size, 0, none⟩), .int .u64 150] 117)) (by rw [World.cell?_alloc_lt _ _ ⟨w.heap.size, 0, none⟩ (by simp; omega)]; simp)
  have st := ras_set25 t ⟨w.heap.size + 1 + 1 + 1, 0, none⟩ e old ((((w.alloc (.cells #[.pointer (some t)] 90)).alloc (.cells #[.pointer (some ⟨2, 90, none⟩), .pointer (some ⟨w.heap.size, 0, none⟩), .int .u64 150] 117)).alloc (.cells #[.pointer (some ⟨2, 90, none⟩), .pointer (some ⟨w.heap.size, 0, none⟩), .int .u64 150] 117)).alloc (.cells #[.pointer (some e)] 84))
    (by rw [World.cell?_alloc_at _ _ _ _ (by simp)]; rfl)
    (by rw [World.cell?_alloc_lt _ _ t (by simp; omega), World.cell?_alloc_lt _ _ t (by simp; omega), World.cell?_alloc_lt _ _ t (by simp; omega), World.cell?_alloc_lt _ _ t htl]; exact ht0)
    (by rw [World.frozen?_alloc_old _ _ t (by simp; omega), World.frozen?_alloc_old _ _ t (by simp; omega), World.frozen?_alloc_old _ _ t (by simp; omega), World.frozen?_alloc_old _ _ t (Nat.ne_of_lt htl)]; exact hf0)
  go_enter Tryz.func49, Tryz.ntmps49
  go_wp2
  refine wp_loop_rounds 1 ?_
  rw [rounds_succ]
  go_wp2
  go_ret
  exact ⟨rfl, rfl⟩
end Go.Proofs.YtcbepjepcabllaaGreatDoor
/- Worlds that change listed blocks alone. -/
set_option linter.unusedVariables false
namespace Go.Proofs.YtcbepjepcabllaaGreatDoor
open Go Go.RowKit
theorem lt_of_heap {w : World} {g : Nat} {o : Obj} (h : w.heap[g]? = some o) : g < w.heap.size := by
  rcases Nat.lt_or_ge g w.heap.size with h1 | h1
  · exact h1
  · rw [Array.getElem?_eq_none h1] at h; cases h
theorem Q.setRow {a b : World} (h : Q a b) {g : Nat} (hg : a.heap.size ≤ g) (cs : Array Value) : Q a (b.setRow g cs) :=
  Q.below h ⟨rfl, rfl, rfl, by simp, fun k hk => by
    simp only [World.setRow, Array.getElem?_modify]
    rw [if_neg (by omega)]⟩
theorem add_off (g o n : Nat) : (⟨g, o, none⟩ : Addr).add n = ⟨g, o + n, none⟩ := by
  unfold Addr.add; split <;> simp_all
/-- Nothing that stood in w has changed, but in these blocks. -/
structure GX (S : List Nat) (w w' : World) : Prop where
  os : w'.os = w.os
  tape : w'.tape = w.tape
  output : w'.output = w.output
  size : w.heap.size ≤ w'.heap.size
  block : ∀ k, k < w.heap.size → k ∉ S → w'.heap[k]? = w.heap[k]?
theorem GX.refl (S : List Nat) (w : World) : GX S w w := ⟨rfl, rfl, rfl, Nat.le_refl _, fun _ _ _ => rfl⟩
theorem GX.trans {S : List Nat} {a b c : World} (h : GX S a b) (k : GX S b c) : GX S a c :=
  ⟨k.os.trans h.os, k.tape.trans h.tape, k.output.trans h.output, Nat.le_trans h.size k.size, fun i hi hr => (k.block i (Nat.lt_of_lt_of_le hi h.size) hr).trans (h.block i hi hr)⟩
theorem GX.mono {S S' : List Nat} {a b : World} (h : GX S a b) (hs : ∀ x ∈ S, x ∈ S') : GX S' a b :=
  ⟨h.os, h.tape, h.output, h.size, fun k hk hn => h.block k hk (fun hm => hn (hs k hm))⟩
theorem GX.gb {S : List Nat} {a b : World} {k : Nat} (h : a.grownBy b (some k)) (hk : k ∈ S) : GX S a b :=
  ⟨h.os, h.tape, h.output, h.size, fun i hi hn => h.block i hi (by intro e; injection e with e; exact hn (e ▸ hk))⟩
theorem GX.q {S : List Nat} {a b : World} (h : Q a b) : GX S a b := ⟨h.os, h.tape, h.output, h.size, fun k hk _ => Below.block h k hk⟩
theorem GX.drew {S : List Nat} {a b : World} (h : GX S a b) : GX S a b.drew := ⟨h.os, h.tape, h.output, h.size, h.block⟩
theorem GX.set {S : List Nat} {a b : World} (h : GX S a b) {g : Nat} (hg : g ∈ S) (i : Nat) (v : Value) : GX S a (b.setCell ⟨g, i, none⟩ v) :=
  ⟨h.os, h.tape, h.output, by simpa using h.size, fun k hk hr => by
    rw [heap_setCell_other b ⟨g, i, none⟩ k v (by intro e; exact hr (by rw [e]; exact hg))]; exact h.block k hk hr⟩
theorem GX.setRow {S : List Nat} {a b : World} (h : GX S a b) {g : Nat} (hg : g ∈ S) (cs : Array Value) : GX S a (b.setRow g cs) :=
  ⟨h.os, h.tape, h.output, by simpa [World.setRow] using h.size, fun k hk hr => by
    simp only [World.setRow, Array.getElem?_modify]
    rw [if_neg (by intro e; exact hr (by rw [← e]; exact hg))]
    exact h.block k hk hr⟩
/-- What changed new blocks alone. -/
theorem GX.toQ {S : List Nat} {w a b : World} (h : GX S a b) (hq : Q w a) (hn : ∀ k ∈ S, w.heap.size ≤ k) : Q w b :=
  Q.below hq ⟨h.os, h.tape, h.output, by have := h.size; have := hq.size; omega, fun k hk => h.block k (Nat.lt_of_lt_of_le hk hq.size) (fun hm => by have := hn k hm; omega)⟩
theorem GX.heap {S : List Nat} {a b : World} (h : GX S a b) {k : Nat} {o : Obj} (hk : k ∉ S) (ho : a.heap[k]? = some o) : b.heap[k]? = some o :=
  (h.block k (lt_of_heap ho) hk).trans ho
end Go.Proofs.YtcbepjepcabllaaGreatDoor
/- Bytes as values; worlds that change one block alone. -/
set_option linter.unusedVariables false
namespace Go.Proofs.YtcbepjepcabllaaGreatDoor
open Go Go.RowKit
def u8V (x : UInt8) : Value := .int .u8 (x.toNat : Int)
def arrB (b : List UInt8) : Array Value := (b.map u8V).toArray
theorem frozen_q {w w' : World} {a : Addr} (hq : Q w w') (h : a.block < w.heap.size) : w'.frozen? a = w.frozen? a := by
  have e : w'.heap[a.block]? = w.heap[a.block]? := Below.block hq a.block h
  unfold World.frozen?
  rw [e]
theorem Q.gb {w w' : World} (h : Q w w') (row : Option Nat) : w.grownBy w' row := ⟨h.os, h.tape, h.output, h.size, fun k hk _ => Below.block h k hk⟩
theorem gb_trans {a b c : World} {row : Option Nat} (h : a.grownBy b row) (k : b.grownBy c row) : a.grownBy c row :=
  ⟨k.os.trans h.os, k.tape.trans h.tape, k.output.trans h.output, Nat.le_trans h.size k.size, fun i hi hr => (k.block i (Nat.lt_of_lt_of_le hi h.size) hr).trans (h.block i hi hr)⟩
theorem gb_set {a b : World} {g : Nat} (h : a.grownBy b (some g)) (i : Nat) (v : Value) : a.grownBy (b.setCell ⟨g, i, none⟩ v) (some g) :=
  ⟨h.os, h.tape, h.output, by simpa using h.size, fun k hk hr => by
    rw [heap_setCell_other b ⟨g, i, none⟩ k v (by intro e; exact hr (by rw [e]))]; exact h.block k hk hr⟩
theorem gb_drew {a b : World} {row : Option Nat} (h : a.grownBy b row) : a.grownBy b.drew row := ⟨h.os, h.tape, h.output, h.size, h.block⟩
end Go.Proofs.YtcbepjepcabllaaGreatDoor
/- A slice of bytes of the call's own: what it holds; append, reads, stores, to and from texts. -/
set_option linter.unusedVariables false
namespace Go.Proofs.YtcbepjepcabllaaGreatDoor
open Go Go.RowKit

/-- v is a slice made since w0 that holds these bytes, all of them writable. -/
def OwnB (w0 w : World) (v : Value) (b : List UInt8) : Prop :=
  (v = .slice none 0 0 ∧ b = []) ∨
  ∃ g cap cur fz, v = .slice (some ⟨g, 0, none⟩) b.length cap ∧ w0.heap.size ≤ g ∧ w.heap[g]? = some (.cells cur 5 fz) ∧ (fz.2 = 0 ∨ cur.size ≤ fz.1) ∧ b.length ≤ cap ∧ cap ≤ maxLen ∧ cur.size = cap ∧ cur.toList.take b.length = b.map u8V
theorem OwnB.nil (w0 w : World) : OwnB w0 w (.slice none 0 0) [] := .inl ⟨rfl, rfl⟩
theorem OwnB.g {w0 w w' : World} {v : Value} {b : List UInt8} {row : Option Nat} (h : OwnB w0 w v b) (hg : w.grownBy w' row) (hr : ∀ k, v.ownBlock = some k → row ≠ some k) : OwnB w0 w' v b := by
  rcases h with h | ⟨g, cap, cur, fz, hv, h1, h2, h3⟩
  · exact .inl h
  · refine .inr ⟨g, cap, cur, fz, hv, h1, ?_, h3⟩
    rw [hg.block g (lt_of_heap h2) (by intro e; exact hr g (by rw [hv]; rfl) e.symm)]
    exact h2
theorem OwnB.q {w0 w w' : World} {v : Value} {b : List UInt8} (h : OwnB w0 w v b) (hq : Q w w') : OwnB w0 w' v b := h.g (hq.gb none) (by simp)
theorem OwnB.base {w0 w1 w : World} {v : Value} {b : List UInt8} (h : OwnB w1 w v b) (hq : w0.heap.size ≤ w1.heap.size) : OwnB w0 w v b := by
  rcases h with h | ⟨g, cap, cur, fz, hv, h1, h2⟩
  · exact .inl h
  · exact .inr ⟨g, cap, cur, fz, hv, by omega, h2⟩
theorem OwnB.block {w0 w : World} {v : Value} {b : List UInt8} (h : OwnB w0 w v b) {k : Nat} (hk : v.ownBlock = some k) : w0.heap.size ≤ k := by
  rcases h with ⟨rfl, _⟩ | ⟨g, cap, cur, fz, rfl, h1, _⟩
  · cases hk
  · simp [Value.ownBlock] at hk; omega
theorem OwnB.of_row {w0 w : World} {v : Value} {b : List UInt8} (h : w.ownsRow w0.heap.size 5 1 v b.length (b.map u8V)) : OwnB w0 w v b := by
  rcases h.2 with ⟨rfl, h0⟩ | ⟨g, cap, cur, rfl, hb, hh, hn, hm, hcs, ht⟩
  · exact .inl ⟨rfl, List.eq_nil_of_length_eq_zero h0⟩
  · exact .inr ⟨g, cap, cur, (0, 0), rfl, hb, hh, .inl rfl, hn, hm, by omega, by rw [Nat.mul_one] at ht; exact ht⟩
theorem info_u8 : (Tryz.prog.info? 5).map (fun i => (i.zero, i.size, i.bytes)) = some (some (.int .u8 0), 1, 1) := by kernel_rfl
theorem heap_setCell_any (w : World) (g i : Nat) (cs : Array Value) (t : TypeId) (fz : Nat × Nat) (v : Value) (hg : w.heap[g]? = some (.cells cs t fz)) :
    (w.setCell ⟨g, i, none⟩ v).heap[g]? = some (.cells (cs.setIfInBounds i v) t fz) := by
  simp [World.setCell, Array.getElem?_modify, hg]
theorem heap_setCells (g : Nat) (t : TypeId) (fz : Nat × Nat) (vs : List Value) : ∀ (o : Nat) (w : World) (cur : Array Value), w.heap[g]? = some (.cells cur t fz) → o + vs.length ≤ cur.size →
    (w.setCells g o vs).heap[g]? = some (.cells (cur.toList.take o ++ vs ++ cur.toList.drop (o + vs.length)).toArray t fz) := by
  induction vs with
  | nil => intro o w cur h _; simpa [World.setCells] using h
  | cons v r ih =>
    intro o w cur h ho
    simp only [List.length_cons] at ho
    rw [World.setCells, ih (o + 1) _ _ (heap_setCell_any w g o cur t fz v h) (by simp; omega)]
    congr 2
    rw [← Array.toList_inj]
    simp only [Array.toList_setIfInBounds]
    have ho' : o < cur.toList.length := by simp; omega
    rw [List.set_eq_take_append_cons_drop, if_pos ho']
    rw [List.take_append, List.drop_append, List.length_take, Nat.min_eq_left (by omega)]
    simp only [show o + 1 - o = 1 from by omega, List.take_succ_cons, List.take_zero, show o + 1 + r.length - o = r.length + 1 from by omega, List.drop_succ_cons, List.drop_drop, List.length_cons]
    rw [List.take_take, Nat.min_eq_right (by omega), List.drop_of_length_le (l := List.take o cur.toList) (by simp; omega)]
    simp [Nat.add_comm, Nat.add_left_comm]
theorem setCells_gb (g : Nat) (vs : List Value) : ∀ (o : Nat) (w : World), w.grownBy (w.setCells g o vs) (some g) := by
  induction vs with
  | nil => intro o w; exact ⟨rfl, rfl, rfl, Nat.le_refl _, fun _ _ _ => rfl⟩
  | cons v r ih => intro o w; exact gb_trans (gb_set ⟨rfl, rfl, rfl, Nat.le_refl _, fun _ _ _ => rfl⟩ o v) (ih (o + 1) _)
theorem frozen_any {w : World} {g i : Nat} {cur : Array Value} {t : TypeId} {fz : Nat × Nat} (h : w.heap[g]? = some (.cells cur t fz)) (hf : fz.2 = 0 ∨ cur.size ≤ fz.1) (hi : i < cur.size) : w.frozen? ⟨g, i, none⟩ = false := by
  unfold World.frozen?
  rw [h]
  simp only [Bool.and_eq_false_iff, decide_eq_false_iff_not]
  omega
theorem next_le {need old : Nat} (h : old < need) : Builtin.nextslicecap need old ≤ need + need / 4 + 512 := by
  unfold Builtin.nextslicecap
  split
  · omega
  · split
    · omega
    · rw [growBy_four]
      repeat' split
      all_goals omega
theorem next_fits {need old : Nat} (h : old < need) (hb : need ≤ 211106232532992) : Builtin.nextslicecap need old * 1 ≤ 281474976710656 := by
  have := next_le h
  omega
/-- append of bytes that lie somewhere. -/
theorem run_append_b (w0 w : World) (v : Value) (b : List UInt8) (ty : TypeId) (hown : OwnB w0 w v b) (ad : Addr) (m c : Nat) (news : List UInt8) (hm : news.length = m) (hnews : ∀ j (h : j < news.length), w.cell? (ad.add j) = some (u8V news[j]))
    (hb : b.length + m ≤ 211106232532992 ∧ m ≤ 140737488355328) (hw : w0.heap.size ≤ w.heap.size) :
    ∃ v' w', (Builtin.append_ #[59, 59] ty #[v, .slice (some ad) m c]).run Tryz.prog w = .ok v' w' ∧ OwnB w0 w' v' (b ++ news) ∧ w.grownBy w' v.ownBlock ∧ (v'.ownBlock = v.ownBlock ∨ v'.ownBlock = some w.heap.size) := by
  obtain ⟨i, hi, hz, hsz, hby⟩ := info_parts info_u8
  have hn2 : ∀ j u, (news.map u8V)[j]? = some u → w.cell? (ad.add j) = some u := by
    intro j u hu
    have hj : j < news.length := by have := (List.getElem?_eq_some_iff.1 hu).1; simpa using this
    rw [hnews j hj]
    rw [List.getElem?_map, List.getElem?_eq_getElem hj] at hu
    exact hu
  have h1 : ∀ u ∈ news.map u8V, u.oneCell' = true := by
    intro u hu
    obtain ⟨x, _, rfl⟩ := List.mem_map.1 hu
    rfl
  rcases hown with ⟨rfl, rfl⟩ | ⟨g, cap, cur, fz, rfl, hbg, hg, hfz, hnc, hcm, hcs, htake⟩
  · obtain ⟨v', w', r1, r2, r3, _, r5⟩ := run_append_own_at (P := Tryz.prog) w w.heap.size 59 ty 5 i (.int .u8 0) 1 1 Tryz.underlying59 hi hz hsz hby rfl (by decide) (.slice none 0 0) 0 [] (World.ownsRow_nil _ _ _ _) ad m c (news.map u8V) (by simp [hm]) hn2 h1 (by unfold maxLen; simp only [List.length_nil] at hb; omega) (by simp only [List.length_nil] at hb; omega) (Nat.le_refl _)
    have r2' : w'.ownsRow w.heap.size 5 1 v' news.length (news.map u8V) := by rw [hm]; simpa using r2
    exact ⟨v', w', r1, (OwnB.of_row r2').base hw, r3, r5⟩
  · by_cases hroom : b.length + m ≤ cap
    · have hf := run_firstCells_some (P := Tryz.prog) w i.size m ad m c (news.map u8V) (by simp [hm, hsz]) hn2
      have hcur : ∀ j, j < cur.size → (w.cell? ⟨g, j, none⟩).isSome = true := fun j hj => by rw [cell_of_row w g j cur _ fz hg, Array.getElem?_eq_getElem hj]; rfl
      have hst := run_storeCells_cells (P := Tryz.prog) g b.length (news.map u8V) 0 w (fun j hj => by simp at hj; simpa using hcur (b.length + j) (by omega)) (fun j hj => by simp at hj; simpa using frozen_any hg hfz (i := b.length + j) (by omega)) h1
      have hrun : (Builtin.append_ #[59, 59] ty #[.slice (some ⟨g, 0, none⟩) b.length cap, .slice (some ad) m c]).run Tryz.prog w = .ok (.slice (some ⟨g, 0, none⟩) (b.length + m) cap) (w.setCells g b.length (news.map u8V)) := by
        simp only [Nat.add_zero] at hst
        rw [hsz] at hf
        simp [Builtin.append_, run_underlying Tryz.underlying59, sizeOf, typeInfo, hi, Builtin.lenOf, hroom, hf, Addr.add_lit, hsz] at hst ⊢
        rw [hst]
        rfl
      have hh := heap_setCells g 5 fz (news.map u8V) b.length w cur hg (by simp; omega)
      have hcl : b.length ≤ cur.toList.length := by simp; omega
      refine ⟨_, _, hrun, .inr ⟨g, cap, _, fz, by simp [hm], hbg, hh, ?_, by simp [hm]; omega, hcm, ?_, ?_⟩, setCells_gb g _ _ _, .inl rfl⟩
      · rcases hfz with h | h
        · exact .inl h
        · right; simp; omega
      · simp; omega
      · have hl : (b ++ news).length = (b.map u8V ++ news.map u8V).length := by simp
        rw [hl, htake, List.take_left', List.map_append]
        rfl
    · have holds : ∀ j u, (b.map u8V)[j]? = some u → w.cell? ((⟨g, 0, none⟩ : Addr).add j) = some u := by
        intro j u hu
        have hj : j < b.length := by have := (List.getElem?_eq_some_iff.1 hu).1; simpa using this
        rw [add_off, Nat.zero_add, cell_of_row w g j cur _ fz hg]
        rw [← htake, List.getElem?_take, if_pos hj] at hu
        simpa using hu
      have hr := run_append_grow (P := Tryz.prog) w 59 ty 5 i (.int .u8 0) Tryz.underlying59 hi hz ⟨g, 0, none⟩ b.length cap (b.map u8V) (by simp [hsz]) holds ad m c (news.map u8V) (by simp [hm, hsz]) hn2 (by omega) (by omega) (by rw [hby]; exact next_fits (by omega) hb.1)
      have hge := grownCap_ge w (b.length + m) cap 5
      have hcm2 : grownCap w (b.length + m) cap 5 ≤ maxLen := grownCap_le_maxLen w (b.length + m) cap 5 (by unfold maxLen; omega)
      refine ⟨_, _, hr, .inr ⟨w.heap.size, _, _, (0, 0), by simp [hm], hw, heap_alloc_new w.drew _, .inl rfl, by simp [hm]; omega, hcm2, ?_, ?_⟩, ⟨rfl, rfl, rfl, by simp, fun k hk _ => Below.heap_alloc w.drew _ k hk⟩, .inr rfl⟩
      · simp only [Array.size_append, List.size_toArray, size_zeroCells, List.length_map, hm]
        rw [show (Value.int IntKind.u8 0).cells.size = 1 from rfl]
        omega
      · have hl : (b ++ news).length = (b.map u8V ++ news.map u8V).length := by simp
        simp only [Array.toList_append, List.append_assoc]
        rw [← List.append_assoc, hl, List.take_left', List.map_append]
        rfl
/-- append of bytes that have just been laid, where there is room. -/
theorem run_append_room_b (w0 W : World) (g cap : Nat) (b : List UInt8) (ty : TypeId) (hown : OwnB w0 W (.slice (some ⟨g, 0, none⟩) b.length cap) b) (hg0 : g < W.heap.size) (news : List UInt8) (n : Nat) (hn : news.length = n) (hroom : b.length + n ≤ cap) :
    ∃ w', (Builtin.append_ #[59, 59] ty #[.slice (some ⟨g, 0, none⟩) b.length cap, .slice (some ⟨W.heap.size, 0, none⟩) n n]).run Tryz.prog (W.alloc (.cells (arrB news) 5)) = .ok (.slice (some ⟨g, 0, none⟩) (b.length + n) cap) w' ∧
      OwnB w0 w' (.slice (some ⟨g, 0, none⟩) (b.length + n) cap) (b ++ news) ∧ (W.alloc (.cells (arrB news) 5)).grownBy w' (some g) := by
  obtain ⟨i, hi, hz, hsz, hby⟩ := info_parts info_u8
  have hA : OwnB w0 (W.alloc (.cells (arrB news) 5)) (.slice (some ⟨g, 0, none⟩) b.length cap) b := hown.q ((Q.refl W).alloc _)
  have hn2 : ∀ j u, (news.map u8V)[j]? = some u → (W.alloc (.cells (arrB news) 5)).cell? ((⟨W.heap.size, 0, none⟩ : Addr).add j) = some u := by
    intro j u hu
    rw [add_off, Nat.zero_add, cell_of_row _ _ _ _ _ _ (heap_alloc_new W _)]
    simpa [arrB] using hu
  have h1 : ∀ u ∈ news.map u8V, u.oneCell' = true := by
    intro u hu
    obtain ⟨x, _, rfl⟩ := List.mem_map.1 hu
    rfl
  rcases hA with ⟨h, _⟩ | ⟨g', cap', cur, fz, hv, hbg, hg, hfz, hnc, hcm, hcs, htake⟩
  · cases h
  · cases hv
    have hf := run_firstCells_some (P := Tryz.prog) (W.alloc (.cells (arrB news) 5)) i.size n ⟨W.heap.size, 0, none⟩ n n (news.map u8V) (by simp [hn, hsz]) hn2
    have hcur : ∀ j, j < cur.size → ((W.alloc (.cells (arrB news) 5)).cell? ⟨g, j, none⟩).isSome = true := fun j hj => by rw [cell_of_row _ g j cur _ fz hg, Array.getElem?_eq_getElem hj]; rfl
    have hst := run_storeCells_cells (P := Tryz.prog) g b.length (news.map u8V) 0 (W.alloc (.cells (arrB news) 5)) (fun j hj => by simp at hj; simpa using hcur (b.length + j) (by omega)) (fun j hj => by simp at hj; simpa using frozen_any hg hfz (i := b.length + j) (by omega)) h1
    have hrun : (Builtin.append_ #[59, 59] ty #[.slice (some ⟨g, 0, none⟩) b.length cap, .slice (some ⟨W.heap.size, 0, none⟩) n n]).run Tryz.prog (W.alloc (.cells (arrB news) 5)) = .ok (.slice (some ⟨g, 0, none⟩) (b.length + n) cap) ((W.alloc (.cells (arrB news) 5)).setCells g b.length (news.map u8V)) := by
      simp only [Nat.add_zero] at hst
      rw [hsz] at hf
      simp [Builtin.append_, run_underlying Tryz.underlying59, sizeOf, typeInfo, hi, Builtin.lenOf, hroom, hf, Addr.add_lit, hsz] at hst ⊢
      rw [hst]
      rfl
    have hh := heap_setCells g 5 fz (news.map u8V) b.length _ cur hg (by simp; omega)
    have hcl : b.length ≤ cur.toList.length := by simp; omega
    refine ⟨_, hrun, .inr ⟨g, cap, _, fz, by simp [hn], hbg, hh, ?_, by simp [hn]; omega, hcm, ?_, ?_⟩, setCells_gb g _ _ _⟩
    · rcases hfz with h | h
      · exact .inl h
      · right; simp; omega
    · simp; omega
    · have hl : (b ++ news).length = (b.map u8V ++ news.map u8V).length := by simp
      rw [hl, htake, List.take_left', List.map_append]
      rfl
theorem step_append_room_b {ops : Array Oper} {o : Oper} {a : Act} {K : Act → World → Prop} {R : Exit → Act → World → Prop} {E : Prop} (hgd : o.guard = none) (s x : Operand)
    (ho : o.op = .call { callee := .builtin .append, args := #[s, x], argTypes := #[59, 59] })
    (w0 W : World) (g len cap : Nat) (b : List UInt8) (hlen : b.length = len) (hs : a.eval s = .slice (some ⟨g, 0, none⟩) len cap) (hown : OwnB w0 W (.slice (some ⟨g, 0, none⟩) len cap) b) (hg0 : g < W.heap.size) (news : List UInt8) (n : Nat) (hn : news.length = n) (hx : a.eval x = .slice (some ⟨W.heap.size, 0, none⟩) n n) (hroom : len + n ≤ cap)
    (h : ∀ w', OwnB w0 w' (.slice (some ⟨g, 0, none⟩) (len + n) cap) (b ++ news) → W.grownBy w' (some g) → K (a.put o.dst (.slice (some ⟨g, 0, none⟩) (len + n) cap)) w') :
    if Region.wanted o (yielded ops a.tmps) = true then Oper.wp Tryz.prog o a (W.alloc (.cells (arrB news) 5)) K R else E := by
  subst hlen
  have hw : Region.wanted o (yielded ops a.tmps) = true := by simp [Region.wanted, hgd]
  rw [if_pos hw]
  obtain ⟨w', hr, h2, h3⟩ := run_append_room_b w0 W g cap b o.type hown hg0 news n hn hroom
  unfold Oper.wp execOp
  simp only [ho, resolve, invoke, builtin, Sem.run_bind, Sem.run_pure, Result.andThen_ok, List.map_toArray, List.map_cons, List.map_nil, hs, hx, hr]
  exact h w' h2 (gb_trans (World.grownBy_alloc W _ _) h3)
theorem gb_q_own {w0 W w' : World} {v : Value} (hg : W.grownBy w' v.ownBlock) (hq : Q w0 W) (hv : ∀ k, v.ownBlock = some k → w0.heap.size ≤ k) : Q w0 w' :=
  Q.below hq ⟨hg.os, hg.tape, hg.output, by have := hg.size; have := hq.size; omega, fun k hk => hg.block k (Nat.lt_of_lt_of_le hk hq.size) (fun e => by have := hv k e.symm; omega)⟩
/-- append(b, x, ..): the new bytes have just been laid. -/
theorem wpList_append_b {ops : Array Oper} {rest : List Oper} {o : Oper} {a : Act} {R : Exit → Act → World → Prop} (hgd : o.guard = none) (s x : Operand)
    (ho : o.op = .call { callee := .builtin .append, args := #[s, x], argTypes := #[59, 59] })
    (w0 W : World) (v : Value) (b : List UInt8) (hs : a.eval s = v) (hown : OwnB w0 W v b) (hq : Q w0 W) (news : List UInt8) (n : Nat) (hn : news.length = n) (hx : a.eval x = .slice (some ⟨W.heap.size, 0, none⟩) n n) (hb : b.length + n ≤ 211106232532992 ∧ n ≤ 140737488355328)
    (h : ∀ v' w', OwnB w0 w' v' (b ++ news) → Q w0 w' → (W.grownBy w' v.ownBlock ∧ (v'.ownBlock = v.ownBlock ∨ v'.ownBlock = some (W.heap.size + 1))) → wpList Tryz.prog ops R rest (a.put o.dst v') w') : wpList Tryz.prog ops R (o :: rest) a (W.alloc (.cells (arrB news) 5)) := by
  have hq1 := hq.alloc (.cells (arrB news) 5)
  have hA : ∀ k, v.ownBlock = some k → w0.heap.size ≤ k := fun k hk => hown.block hk
  have hown1 : OwnB w0 (W.alloc (.cells (arrB news) 5)) v b := hown.q ((Q.refl W).alloc _)
  obtain ⟨v', w', hr, h2, h3, h4⟩ := run_append_b w0 _ v b o.type hown1 ⟨W.heap.size, 0, none⟩ n n news hn (fun j hj => by
    rw [add_off, Nat.zero_add, cell_of_row _ _ _ _ _ _ (heap_alloc_new W _)]
    simp [arrB, hj]) hb hq1.size
  refine wpList_plain hgd fun K hK => ?_
  unfold Oper.wp execOp
  simp only [ho, resolve, invoke, builtin, Sem.run_bind, Sem.run_pure, Result.andThen_ok, List.map_toArray, List.map_cons, List.map_nil, hs, hx, hr]
  exact hK _ _ (h v' w' h2 (gb_q_own h3 hq1 hA) ⟨gb_trans (World.grownBy_alloc W _ _) h3, by simpa using h4⟩)
/-- append(b, x...): bytes that lie somewhere. -/
theorem wpList_append_from {ops : Array Oper} {rest : List Oper} {o : Oper} {a : Act} {R : Exit → Act → World → Prop} (hgd : o.guard = none) (s x : Operand)
    (ho : o.op = .call { callee := .builtin .append, args := #[s, x], argTypes := #[59, 59] })
    (w0 W : World) (v : Value) (b : List UInt8) (hs : a.eval s = v) (hown : OwnB w0 W v b) (hq : Q w0 W) (ad : Addr) (news : List UInt8) (n c : Nat) (hn : news.length = n) (hx : a.eval x = .slice (some ad) n c)
    (hc : ∀ j (h : j < news.length), W.cell? (ad.add j) = some (u8V news[j])) (hb : b.length + n ≤ 211106232532992 ∧ n ≤ 140737488355328)
    (h : ∀ v' w', OwnB w0 w' v' (b ++ news) → Q w0 w' → (W.grownBy w' v.ownBlock ∧ (v'.ownBlock = v.ownBlock ∨ v'.ownBlock = some W.heap.size)) → wpList Tryz.prog ops R rest (a.put o.dst v') w') : wpList Tryz.prog ops R (o :: rest) a W := by
  have hA : ∀ k, v.ownBlock = some k → w0.heap.size ≤ k := fun k hk => hown.block hk
  obtain ⟨v', w', hr, h2, h3, h4⟩ := run_append_b w0 _ v b o.type hown ad n c news hn hc hb hq.size
  refine wpList_plain hgd fun K hK => ?_
  unfold Oper.wp execOp
  simp only [ho, resolve, invoke, builtin, Sem.run_bind, Sem.run_pure, Result.andThen_ok, List.map_toArray, List.map_cons, List.map_nil, hs, hx, hr]
  exact hK _ _ (h v' w' h2 (gb_q_own h3 hq hA) ⟨h3, h4⟩)
/-- The same as a step of a region that draws its order. -/
theorem step_append_b {ops : Array Oper} {o : Oper} {a : Act} {K : Act → World → Prop} {R : Exit → Act → World → Prop} {E : Prop} (hgd : o.guard = none) (s x : Operand)
    (ho : o.op = .call { callee := .builtin .append, args := #[s, x], argTypes := #[59, 59] })
    (w0 W : World) (v : Value) (b : List UInt8) (hs : a.eval s = v) (hown : OwnB w0 W v b) (hq : Q w0 W) (news : List UInt8) (n : Nat) (hn : news.length = n) (hx : a.eval x = .slice (some ⟨W.heap.size, 0, none⟩) n n) (hb : b.length + n ≤ 211106232532992 ∧ n ≤ 140737488355328)
    (h : ∀ v' w', OwnB w0 w' v' (b ++ news) → Q w0 w' → (W.grownBy w' v.ownBlock ∧ (v'.ownBlock = v.ownBlock ∨ v'.ownBlock = some (W.heap.size + 1))) → K (a.put o.dst v') w') :
    if Region.wanted o (yielded ops a.tmps) = true then Oper.wp Tryz.prog o a (W.alloc (.cells (arrB news) 5)) K R else E := by
  have hw : Region.wanted o (yielded ops a.tmps) = true := by simp [Region.wanted, hgd]
  rw [if_pos hw]
  have hq1 := hq.alloc (.cells (arrB news) 5)
  have hA : ∀ k, v.ownBlock = some k → w0.heap.size ≤ k := fun k hk => hown.block hk
  have hown1 : OwnB w0 (W.alloc (.cells (arrB news) 5)) v b := hown.q ((Q.refl W).alloc _)
  obtain ⟨v', w', hr, h2, h3, h4⟩ := run_append_b w0 _ v b o.type hown1 ⟨W.heap.size, 0, none⟩ n n news hn (fun j hj => by
    rw [add_off, Nat.zero_add, cell_of_row _ _ _ _ _ _ (heap_alloc_new W _)]
    simp [arrB, hj]) hb hq1.size
  unfold Oper.wp execOp
  simp only [ho, resolve, invoke, builtin, Sem.run_bind, Sem.run_pure, Result.andThen_ok, List.map_toArray, List.map_cons, List.map_nil, hs, hx, hr]
  exact h v' w' h2 (gb_q_own h3 hq1 hA) ⟨gb_trans (World.grownBy_alloc W _ _) h3, by simpa using h4⟩
/-- string(b). -/
theorem conv_b {w0 w : World} {v : Value} {b : List UInt8} (h : OwnB w0 w v b) : (convert 59 9 v).run Tryz.prog w = .ok (.string ⟨b.toArray⟩) w := by
  rcases h with ⟨rfl, rfl⟩ | ⟨g, cap, cur, fz, rfl, hbg, hg, hfz, hnc, hcm, hcs, htake⟩
  · have := Lib.run_convert_nil_bytes (P := Tryz.prog) w 59 9 5 0 Tryz.underlying59 Tryz.underlying5 Tryz.underlying9
    rw [this]
  · refine run_convert_bytes_back (P := Tryz.prog) w 59 9 5 ⟨g, 0, none⟩ cap b Tryz.underlying59 Tryz.underlying5 Tryz.underlying9 ?_
    intro i hi
    rw [add_off, Nat.zero_add, cell_of_row w g i cur _ fz hg]
    have e : cur[i]? = (b.map u8V)[i]? := by rw [← htake, List.getElem?_take, if_pos hi, Array.getElem?_toList]
    rw [e]
    simp [u8V, hi]
/-- []byte(s). -/
theorem bytes_of (l : List UInt8) (w : World) (hl : l.length ≤ 9223372036854775807) : ∃ v w', (convert 9 59 (.string ⟨l.toArray⟩)).run Tryz.prog w = .ok v w' ∧ OwnB w w' v l ∧ Q w w' ∧ ∃ cap, v = .slice (some ⟨w.heap.size, 0, none⟩) l.length cap := by
  have hr := run_bytes_of_string (P := Tryz.prog) w 9 59 5 ⟨l.toArray⟩ Tryz.underlying9 Tryz.underlying59 Tryz.underlying5
  have hsz : (ByteArray.mk l.toArray).size = l.length := rfl
  have hge := grownCap_ge w l.length 0 5
  have hcm2 := grownCap_le_maxLen w l.length 0 5 (by unfold maxLen; omega)
  rw [hsz] at hr
  refine ⟨_, _, hr, .inr ⟨w.heap.size, _, _, _, rfl, Nat.le_refl _, heap_alloc_new w.drew _, .inr (Nat.le_refl _), hge, hcm2, ?_, ?_⟩, (Q.refl w).drew.alloc _, _, rfl⟩
  · simp [bytesRow, hsz]; omega
  · simp [bytesRow, u8V]
theorem OwnB.form {w0 w : World} {v : Value} {b : List UInt8} (h : OwnB w0 w v b) : ∃ A cap, v = .slice A b.length cap ∧ b.length ≤ cap ∧ cap ≤ maxLen ∧ (A = none → b = []) ∧ ∀ ad, A = some ad → w0.heap.size ≤ ad.block ∧ ad = ⟨ad.block, 0, none⟩ ∧
    (∀ i, i < b.length → w.cell? ⟨ad.block, i, none⟩ = some (.int .u8 ((gB b i).toNat : Int)) ∧ w.frozen? ⟨ad.block, i, none⟩ = false) := by
  rcases h with ⟨rfl, rfl⟩ | ⟨g, cap, cur, fz, rfl, hbg, hg, hfz, hnc, hcm, hcs, htake⟩
  · exact ⟨none, 0, rfl, Nat.le_refl _, by unfold maxLen; omega, fun _ => rfl, fun ad h => by cases h⟩
  · refine ⟨_, cap, rfl, hnc, hcm, fun h => (by cases h), fun ad h => ?_⟩
    cases h
    refine ⟨hbg, rfl, fun i hi => ⟨?_, frozen_any hg hfz (by omega)⟩⟩
    show w.cell? ⟨g, i, none⟩ = _
    rw [cell_of_row w g i cur _ fz hg]
    have e : cur[i]? = (b.map u8V)[i]? := by rw [← htake, List.getElem?_take, if_pos hi, Array.getElem?_toList]
    rw [e]
    simp [u8V, gB, List.getD, hi]
/-- Such a slice of at least one byte. -/
theorem OwnB.pos {w0 w : World} {v : Value} {b : List UInt8} (h : OwnB w0 w v b) (hb : 0 < b.length) : ∃ g cap, v = .slice (some ⟨g, 0, none⟩) b.length cap ∧ w0.heap.size ≤ g ∧ b.length ≤ cap ∧ cap ≤ maxLen ∧
    ∀ i, i < b.length → w.cell? ⟨g, i, none⟩ = some (.int .u8 ((gB b i).toNat : Int)) ∧ w.frozen? ⟨g, i, none⟩ = false := by
  obtain ⟨A, cap, hv, h1, h2, h3, h4⟩ := h.form
  cases A with
  | none => rw [h3 rfl] at hb; cases hb
  | some ad =>
    obtain ⟨h5, h6, h7⟩ := h4 ad rfl
    exact ⟨ad.block, cap, by rw [hv, ← h6], h5, h1, h2, h7⟩
theorem OwnB.set {w0 w : World} {g n cap : Nat} {b : List UInt8} (h : OwnB w0 w (.slice (some ⟨g, 0, none⟩) n cap) b) (i : Nat) (x : UInt8) : OwnB w0 (w.setCell ⟨g, i, none⟩ (.int .u8 (x.toNat : Int))) (.slice (some ⟨g, 0, none⟩) n cap) (b.set i x) := by
  rcases h with ⟨h, _⟩ | ⟨g', cap', cur, fz, hv, hbg, hg, hfz, hnc, hcm, hcs, htake⟩
  · cases h
  · cases hv
    refine .inr ⟨g, cap, _, fz, by simp, hbg, heap_setCell_any w g i cur _ fz _ hg, ?_, by simpa using hnc, hcm, by simpa using hcs, ?_⟩
    · rcases hfz with h | h
      · exact .inl h
      · right; simpa using h
    · simp only [Array.toList_setIfInBounds, List.length_set]
      rw [List.take_set, htake, List.map_set]
      rfl
/-- make([]byte, 0, n). -/
theorem make_b (n : Nat) (w : World) (hn : n ≤ 281474976710656) : ∃ w', (Instr.makeSlice 59 (.int .i64 0) (.int .i64 (n : Int))).run Tryz.prog w = .ok (.slice (some ⟨w.heap.size, 0, none⟩) 0 n) w' ∧ OwnB w w' (.slice (some ⟨w.heap.size, 0, none⟩) 0 n) [] ∧ Q w w' := by
  obtain ⟨i, hi, hz, hsz, hby⟩ := info_parts info_u8
  have h := run_make (P := Tryz.prog) w 59 5 i _ Tryz.underlying59 hi hz .i64 .i64 0 (n : Int) (by omega) (by omega) (by rw [hby]; omega) (by omega)
  refine ⟨_, h, .inr ⟨w.heap.size, n, _, (0, 0), rfl, Nat.le_refl _, heap_alloc_new w _, .inl rfl, Nat.zero_le _, by unfold maxLen; omega, ?_, rfl⟩, (Q.refl w).alloc _⟩
  rw [size_madeCells, hsz]; simp
end Go.Proofs.YtcbepjepcabllaaGreatDoor
