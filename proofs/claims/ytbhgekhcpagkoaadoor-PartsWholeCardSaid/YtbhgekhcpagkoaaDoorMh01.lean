/- Texts of this proof, laid into one: Base, Tab, TiedP, PaA, Sha, Bits, ShA, Gx, ShG. -/
import Derived.Test.YtbhgekhcpagkoaaDoorProg
import Derived.WalkKit
import Derived.Lib.Hide
import Derived.BigQuiet
import Derived.Laws.IdiomStrings
import Derived.Test.YtbhgekhcpagkoaaDoorShelf
import Derived.Lib.AppendIntMem
import Derived.Lib.ItoaLen
import Derived.Test.YtbhgekhcpagkoaaDoorRows
import Derived.ProofKit
import Derived.LaidMore
import Derived.LaidSub
import Derived.MakeChecks
import Derived.Lib.LaidTab
import Derived.OpenShut
import Derived.Stop.Joined
import Derived.Shelf.SlicesQ.IndexFunc
import Derived.Outline
import Derived.Laws.Shifts
import Derived.Laws.Rows
import Derived.RegionTactic
import Derived.BigRegion
/- Base: worlds that grow only (Q), a region that draws its order whose calls may lay new memory, texts made of bytes. -/
namespace Go.Proofs.YtbhgekhcpagkoaaDoor
open Go Go.RowKit

/-- w' is w with new blocks behind it, and draws: what was there is as it was. -/
def Q (w w' : World) : Prop := Below w.heap.size w w'
theorem Q.refl (w : World) : Q w w := Below.refl _ _
theorem Q.trans {a b c : World} (h : Q a b) (k : Q b c) : Q a c := Below.trans h (Below.mono k h.size)
theorem Q.drew {a b : World} (h : Q a b) : Q a b.drew := Below.drew h
theorem Q.drewN {a b : World} (h : Q a b) (n : Nat) : Q a (b.drewN n) := ⟨h.os, h.tape, h.output, h.size, h.block⟩
theorem Q.alloc {a b : World} (h : Q a b) (o : Obj) : Q a (b.alloc o) := Below.alloc h h.size o
theorem Q.setNew {a b : World} (h : Q a b) {p : Addr} (hp : a.heap.size ≤ p.block) (v : Value) : Q a (b.setCell p v) := Below.setCell h hp v
theorem Q.below {a b c : World} (h : Q a b) (k : Below a.heap.size b c) : Q a c := Below.trans h k
theorem Q.size {a b : World} (h : Q a b) : a.heap.size ≤ b.heap.size := Below.size h
theorem lt_of_cell {w : World} {a : Addr} {v : Value} (h : w.cell? a = some v) : a.block < w.heap.size := by
  unfold World.cell? at h
  rcases Nat.lt_or_ge a.block w.heap.size with h1 | h1
  · exact h1
  · rw [Array.getElem?_eq_none h1] at h; cases h
theorem Q.cell {a b : World} (h : Q a b) {p : Addr} {v : Value} (hp : a.cell? p = some v) : b.cell? p = some v := (Below.cell h (lt_of_cell hp)).trans hp
theorem Q.block {a b : World} (h : Q a b) {k : Nat} {o : Obj} (hp : a.heap[k]? = some o) : b.heap[k]? = some o := by
  rcases Nat.lt_or_ge k a.heap.size with h1 | h1
  · exact (Below.block h k h1).trans hp
  · rw [Array.getElem?_eq_none h1] at hp; cases hp

structure QW (w : World) where
  val : World
  le : Q w val
instance (w : World) : Nonempty (QW w) := ⟨⟨w, Q.refl w⟩⟩
theorem QW.cell {w : World} (m : QW w) {p : Addr} {v : Value} (hp : w.cell? p = some v) : m.val.cell? p = some v := m.le.cell hp
@[go_sem, simp] theorem QW.same {w : World} {x v : Value} : (∀ m : QW w, m.val = m.val ∧ x = v) ↔ x = v := by
  constructor
  · intro h; exact (h ⟨w, Q.refl w⟩).2
  · intro h m; exact ⟨rfl, h⟩

/-- A region that draws its order: every operation hands back one value in every world that w grows to. -/
theorem wp_region_q {P : Program} {id : Nat} {R : Exit → Act → World → Prop} {a : Act} {w : World} {l : List Oper} (hm : P.follows .mixedOrders = true) (hB : Region.lexB .any l.toArray = true)
    (h : wpQuiet P l.toArray (fun w' => ∃ m : QW w, w' = m.val) (fun a' => ∀ w', (∃ m : QW w, w' = m.val) → R .normal a' w') l a) : (Code.region id l.toArray true).wp P R a w :=
  wp_region_quiet (C := fun w' => ∃ m : QW w, w' = m.val) hm hB ⟨⟨w.drew, (Q.refl w).drew⟩, rfl⟩ (by simpa using h)

/-- A contract met within such a region. -/
theorem calls_q {P : Program} {f : FuncId} {args : Array Value} {w : World} {m : QW w} {v : Value}
    (h : Calls P f args m.val fun e w' => e = .returned v ∧ Q m.val w') : Calls P f args m.val fun e w'' => e = .returned v ∧ ∃ k : QW w, w'' = k.val :=
  h.mono fun _ w' ⟨he, hq⟩ => ⟨he, ⟨w', m.le.trans hq⟩, rfl⟩
theorem calls_qs {P : Program} {f : FuncId} {args : Array Value} {w : World} {m : QW w} {v : Value}
    (h : Calls P f args m.val fun e w' => e = .returned v ∧ m.val = w') : Calls P f args m.val fun e w'' => e = .returned v ∧ ∃ k : QW w, w'' = k.val :=
  h.mono fun _ _ ⟨he, hq⟩ => ⟨he, m, hq.symm⟩

theorem ret_eq {a b : Value} (h : a = b) : Ending.returned a = Ending.returned b := by rw [h]
theorem ret_int {k : IntKind} {a b : Int} (h : a = b) : Ending.returned (.int k a) = .returned (.int k b) := by rw [h]

/-- A byte of a number. -/
def byteOf (n : Int) : UInt8 := UInt8.ofNat n.toNat
theorem byteOf_int (n : Int) (h0 : 0 ≤ n) (h1 : n < 256) : ((byteOf n).toNat : Int) = n := by
  unfold byteOf; simp; omega
theorem byteOf_toNat (u : UInt8) : byteOf (u.toNat : Int) = u := by unfold byteOf; simp

/-- string([]byte{..}) of a row that has just been laid. -/
theorem conv_bytes {P : Program} (w : World) (src dst e : TypeId) (cap : Nat) (ns : List Int) (hs : P.underlying src = some (.slice e)) (he : P.underlying e = some (.int .u8)) (hd : P.underlying dst = some .string)
    (hb : ∀ n ∈ ns, 0 ≤ n ∧ n < 256) :
    (convert src dst (.slice (some ⟨w.heap.size, 0, none⟩) ns.length cap)).run P (w.alloc (.cells (ns.map (Value.int .u8)).toArray e)) =
      .ok (.string ⟨(ns.map byteOf).toArray⟩) (w.alloc (.cells (ns.map (Value.int .u8)).toArray e)) := by
  have h := run_convert_bytes_back (P := P) (w.alloc (.cells (ns.map (Value.int .u8)).toArray e)) src dst e ⟨w.heap.size, 0, none⟩ cap (ns.map byteOf) hs he hd
  simp only [List.length_map] at h
  apply h
  intro i hi
  have e1 : (Addr.add ⟨w.heap.size, 0, none⟩ i) = ⟨w.heap.size, i, none⟩ := by unfold Addr.add; split <;> simp_all
  rw [e1]
  have e2 : (w.alloc (.cells (ns.map (Value.int .u8)).toArray e)).heap[w.heap.size]? = some (.cells (ns.map (Value.int .u8)).toArray e) := (MapKept.heap_alloc w _).1
  unfold World.cell?
  rw [e2]
  have h2 := hb ns[i] (List.getElem_mem hi)
  simp only [Option.isSome_none, Bool.false_eq_true, if_false, List.getElem?_toArray, List.getElem?_map, List.getElem_map, List.getElem?_eq_getElem hi, Option.map_some]
  rw [byteOf_int _ h2.1 h2.2]
theorem conv_bytes4 {P : Program} (w : World) (src dst e : TypeId) (cap : Nat) (a b c d : Int) (hs : P.underlying src = some (.slice e)) (he : P.underlying e = some (.int .u8)) (hd : P.underlying dst = some .string)
    (ha : 0 ≤ a ∧ a < 256) (hb : 0 ≤ b ∧ b < 256) (hc : 0 ≤ c ∧ c < 256) (hd' : 0 ≤ d ∧ d < 256) :
    (convert src dst (.slice (some ⟨w.heap.size, 0, none⟩) 4 cap)).run P (w.alloc (.cells #[.int .u8 a, .int .u8 b, .int .u8 c, .int .u8 d] e)) =
      .ok (.string ⟨#[byteOf a, byteOf b, byteOf c, byteOf d]⟩) (w.alloc (.cells #[.int .u8 a, .int .u8 b, .int .u8 c, .int .u8 d] e)) :=
  conv_bytes w src dst e cap [a, b, c, d] hs he hd (by intro n hn; simp at hn; rcases hn with rfl | rfl | rfl | rfl <;> assumption)

/-! Texts as lists of bytes: what the walk makes of their operations. -/
/-- The byte at a place. -/
def gB (l : List UInt8) (i : Nat) : UInt8 := l.getD i 0
/-- The bytes from i up to j. -/
def sub (l : List UInt8) (i j : Nat) : List UInt8 := (l.take j).drop i
@[go_sem] theorem length_sub (l : List UInt8) (i j : Nat) : (sub l i j).length = min j l.length - i := by
  simp [sub]
theorem gB_lt (l : List UInt8) (i : Nat) : ((gB l i).toNat : Int) < 256 := by have := (gB l i).toNat_lt; omega
theorem gB_nn (l : List UInt8) (i : Nat) : 0 ≤ ((gB l i).toNat : Int) := by omega

section
variable {P : Program} (w : World)
@[go_sem 2000] theorem run_index_list (t : TypeId) (l : List UInt8) (k : IntKind) (i : Int) (h : P.underlying t = some .string) :
    (Instr.index t (.string ⟨l.toArray⟩) (.int k i)).run P w =
      if 0 ≤ i ∧ i < l.length then .ok (.int .u8 ((gB l i.toNat).toNat : Int)) w else (boundsPanic k i l.length .index).run P w := by
  rw [run_index_string w t ⟨l.toArray⟩ k i h]
  have hs : (ByteArray.mk l.toArray).size = l.length := rfl
  by_cases hi : 0 ≤ i ∧ i < l.length
  · have hi' : 0 ≤ i ∧ i < ((ByteArray.mk l.toArray).size : Int) := hi
    rw [dif_pos hi', if_pos hi]
    have h2 : i.toNat < l.length := by omega
    have e : gB l i.toNat = l[i.toNat] := by unfold gB; simp [List.getD, h2]
    rw [e]; rfl
  · have hi' : ¬ (0 ≤ i ∧ i < ((ByteArray.mk l.toArray).size : Int)) := hi
    rw [dif_neg hi', if_neg hi]; rfl

theorem extract_list (l : List UInt8) (i j : Nat) : (ByteArray.mk l.toArray).extract i j = ⟨(sub l i j).toArray⟩ := by
  apply ByteArray.ext
  simp only [ByteArray.data_extract, sub]
  rw [← Array.toList_inj]
  simp
  first | rfl | rw [List.drop_take] | skip

theorem run_slice_list0 (t : TypeId) (l : List UInt8) (k k' : IntKind) (i j : Int) (h : P.underlying t = some .string)
    (h0 : 0 ≤ i) (h1 : i ≤ j) (h2 : j ≤ l.length) :
    (Instr.slice t (.string ⟨l.toArray⟩) (some (.int k i)) (some (.int k' j)) none).run P w = .ok (.string ⟨(sub l i.toNat j.toNat).toArray⟩) w := by
  rw [run_slice_string w t ⟨l.toArray⟩ k k' i j h h0 h1 h2, extract_list]
theorem run_slice_list_from0 (t : TypeId) (l : List UInt8) (k : IntKind) (i : Int) (h : P.underlying t = some .string)
    (h0 : 0 ≤ i) (h2 : i ≤ l.length) :
    (Instr.slice t (.string ⟨l.toArray⟩) (some (.int k i)) none none).run P w = .ok (.string ⟨(sub l i.toNat l.length).toArray⟩) w := by
  rw [run_slice_string_from_if w t ⟨l.toArray⟩ k i h]
  have hs : (ByteArray.mk l.toArray).size = l.length := rfl
  simp only [hs]
  rw [if_pos (by omega), extract_list]
theorem run_slice_list_to0 (t : TypeId) (l : List UInt8) (k : IntKind) (j : Int) (h : P.underlying t = some .string)
    (h0 : 0 ≤ j) (h2 : j ≤ l.length) :
    (Instr.slice t (.string ⟨l.toArray⟩) none (some (.int k j)) none).run P w = .ok (.string ⟨(sub l 0 j.toNat).toArray⟩) w := by
  rw [run_slice_string_to_if w t ⟨l.toArray⟩ k j h]
  have hs : (ByteArray.mk l.toArray).size = l.length := rfl
  simp only [hs]
  rw [if_pos (by omega), extract_list]
theorem run_add_list0 (a b : List UInt8) (h : (a.length : Int) + b.length ≤ 9223372036854775807) :
    (Op.stringOp .add ⟨a.toArray⟩ ⟨b.toArray⟩).run P w = .ok (.string ⟨(a ++ b).toArray⟩) w := by
  rw [run_string_add_sum w _ _ (by simp [ByteArray.size]; omega), ByteArray.mk_append_mk]

/-- What is run where the bounds do not hold (never opened). -/
def elseRun {α : Type} (P : Program) (s : Sem α) (w : World) : Result α := s.run P w
@[go_sem 2000] theorem run_slice_list (t : TypeId) (l : List UInt8) (k k' : IntKind) (i j : Int) (h : P.underlying t = some .string) :
    (Instr.slice t (.string ⟨l.toArray⟩) (some (.int k i)) (some (.int k' j)) none).run P w =
      if 0 ≤ i ∧ i ≤ j ∧ j ≤ l.length then .ok (.string ⟨(sub l i.toNat j.toNat).toArray⟩) w
      else elseRun P (Instr.slice t (.string ⟨l.toArray⟩) (some (.int k i)) (some (.int k' j)) none) w := by
  split
  · next hc => exact run_slice_list0 w t l k k' i j h hc.1 hc.2.1 hc.2.2
  · rfl
@[go_sem 2000] theorem run_slice_list_from (t : TypeId) (l : List UInt8) (k : IntKind) (i : Int) (h : P.underlying t = some .string) :
    (Instr.slice t (.string ⟨l.toArray⟩) (some (.int k i)) none none).run P w =
      if 0 ≤ i ∧ i ≤ l.length then .ok (.string ⟨(sub l i.toNat l.length).toArray⟩) w
      else elseRun P (Instr.slice t (.string ⟨l.toArray⟩) (some (.int k i)) none none) w := by
  split
  · next hc => exact run_slice_list_from0 w t l k i h hc.1 hc.2
  · rfl
@[go_sem 2000] theorem run_slice_list_to (t : TypeId) (l : List UInt8) (k : IntKind) (j : Int) (h : P.underlying t = some .string) :
    (Instr.slice t (.string ⟨l.toArray⟩) none (some (.int k j)) none).run P w =
      if 0 ≤ j ∧ j ≤ l.length then .ok (.string ⟨(sub l 0 j.toNat).toArray⟩) w
      else elseRun P (Instr.slice t (.string ⟨l.toArray⟩) none (some (.int k j)) none) w := by
  split
  · next hc => exact run_slice_list_to0 w t l k j h hc.1 hc.2
  · rfl
@[go_sem 2000] theorem run_add_list (a b : List UInt8) :
    (Op.stringOp .add ⟨a.toArray⟩ ⟨b.toArray⟩).run P w =
      if (a.length : Int) + b.length ≤ 9223372036854775807 then .ok (.string ⟨(a ++ b).toArray⟩) w else elseRun P (Op.stringOp .add ⟨a.toArray⟩ ⟨b.toArray⟩) w := by
  split
  · next hc => exact run_add_list0 w a b hc
  · rfl
end
end Go.Proofs.YtbhgekhcpagkoaaDoor
/- The table that Itoa reads; Itoa; the document's Digits. -/
set_option linter.unusedVariables false
namespace Go.Proofs.YtbhgekhcpagkoaaDoor
open Go Go.RowKit
def Tab (w : World) : Prop := Lib.TabIs Tryd.prog w "internal/strconv.uint64pow10" .u64 Lib.pow10Tab
theorem Tab.q {w w' : World} (h : Tab w) (hq : Q w w') : Tab w' := Lib.tabBelow_of_tabIs h w' hq
theorem Itoa_nat (n : Nat) (w : World) (ht : Tab w) (hn : n ≤ 9223372036854775807) : Calls Tryd.prog 33 #[.int .i64 (n : Int)] w fun e w' => e = .returned (.string ⟨(Lib.decDigits n).toArray⟩) ∧ Q w w' :=
  (Tryd.strconv_Itoa (n : Int) (by omega) (by omega) w ht).mono fun e w' ⟨h, k, os, hw⟩ => ⟨by rw [h, Lib.itoa_nonneg], by rw [hw]; exact Lib.below_grow _ _ (Nat.le_refl _) _ _⟩
def tenL : List UInt8 := [48, 49, 50, 51, 52, 53, 54, 55, 56, 57]
theorem ten_at (i : Nat) (h : i < 10) : sub tenL i (i + 1) = [UInt8.ofNat (48 + i)] := by
  have : ∀ i, i < 10 → sub tenL i (i + 1) = [UInt8.ofNat (48 + i)] := by decide +kernel
  exact this i h
theorem dec_len (n : Nat) (h : n ≤ 9223372036854775807) : (Lib.decDigits n).length ≤ 21 := by
  have := Lib.itoa_length_le (n : Int) (by omega) (by omega)
  rwa [Lib.itoa_nonneg] at this
set_option maxRecDepth 100000 in
set_option maxHeartbeats 1000000 in
theorem Digits_any (n : Nat) : n ≤ 9223372036854775807 → ∀ (w : World), Calls Tryd.prog 39 #[.int .i64 (n : Int)] w fun e w' => e = .returned (.string ⟨(Lib.decDigits n).toArray⟩) ∧ Q w w' := by
  induction n using Nat.strongRecOn with
  | _ n ih =>
    intro hn w
    have ht : (⟨#[48, 49, 50, 51, 52, 53, 54, 55, 56, 57]⟩ : ByteArray) = ⟨tenL.toArray⟩ := rfl
    by_cases h : n < 10
    · have g1 : decide ((n : Int) < 10) = true := by simp; omega
      have hd : Lib.decDigits n = [UInt8.ofNat (48 + n)] := Lib.decDigits_one h
      have hs := ten_at n h
      rw [hd]
      clear hd
      have htl : tenL.length = 10 := rfl
      go_enter Tryd.func39, Tryd.ntmps39
      rw [ht]
      go_wp2_with fail
      go_ret
      exact ⟨ret_eq (by simp), Q.refl _⟩
    · have g1 : decide ((n : Int) < 10) = false := by simp; omega
      obtain ⟨q, hq⟩ : ∃ q, q = n / 10 := ⟨_, rfl⟩
      obtain ⟨r, hr⟩ : ∃ r, r = n % 10 := ⟨_, rfl⟩
      have hd : Lib.decDigits n = Lib.decDigits q ++ [UInt8.ofNat (48 + r)] := by rw [Lib.decDigits, dif_neg h, hq, hr]
      have hs := ten_at r (by omega)
      have hih := Lib.hid (fun w => ih q (by omega) (by omega) w)
      have hdl := dec_len q (by omega)
      rw [hd]
      have htl : tenL.length = 10 := rfl
      have hq1 : ((n : Int) / 10) = (q : Int) := by omega
      have hq2 : ((n : Int) % 10) = (r : Int) := by omega
      have hq3 : r < 10 := by omega
      clear hd ih hq hr
      go_enter Tryd.func39, Tryd.ntmps39
      rw [ht]
      go_wp2_with fail
      refine wp_region_q (by kernel_rfl) (by kernel_rfl) ?_
      (repeat (go_big_quiet_step ((go_at_call 39; exact calls_q (hih.out _)))))
      refine wpQuiet_nil ?_
      rintro wa ⟨ma, hma⟩
      have hqa : Q w wa := by rw [hma]; exact ma.le
      go_wp2_with fail
      go_ret
      exact ⟨ret_eq (by simp), hqa⟩
end Go.Proofs.YtbhgekhcpagkoaaDoor
/- What the rows list of package-level variables, and what it gives the walks. -/
set_option linter.unusedVariables false
namespace Go.Proofs.YtbhgekhcpagkoaaDoor
open Go Go.RowKit
def laid3 : List (String × DataW Unit) := [("math/bits.deBruijn32tab", Rows.laid_math_bits_deBruijn32tab), ("math/bits.deBruijn64tab", Rows.laid_math_bits_deBruijn64tab), ("internal/strconv.uint64pow10", Rows.laid_internal_strconv_uint64pow10)]
theorem door_met (os : Os) (args : Array Value) : laidMetH Tryd.prog laid3 ((World.doorLaid Tryd.prog 400 os).forCall (fun _ _ => 0) ⟨#[], args, []⟩).memory :=
  laidMetH_of_parts3 (fuel := 8) (laidMet_of_run' 8 (by kernel_rfl) (by kernel_rfl)) (by kernel_rfl) (by kernel_rfl)
theorem tab_of_laid {W : World} (h : laidMetH Tryd.prog laid3 W) : Tab W := by
  rw [MakeChecks.laidMetH_plain _ _ _ (by kernel_rfl)] at h
  have h2 := h.filter (fun x => x.1 == "internal/strconv.uint64pow10")
  have e : laid3.filter (fun x => x.1 == "internal/strconv.uint64pow10") = [("internal/strconv.uint64pow10", Lib.tabData .u64 Lib.pow10Tab)] := by kernel_rfl
  rw [e] at h2
  exact Lib.tabIs_of_head (g := 0) (by kernel_rfl) (t := 121) (by kernel_rfl) Tryd.underlying121 Tryd.underlying87 (by kernel_rfl) (by kernel_rfl) h2
end Go.Proofs.YtbhgekhcpagkoaaDoor
/- slices.IndexFunc and ContainsFunc of parts: the shelf's contracts, laid at this seat by names. -/
set_option linter.unusedVariables false
namespace Go.Proofs.YtbhgekhcpagkoaaDoor
open Go Go.RowKit
def lPa_ren : Go.Shelf.Ren := ⟨fun | 6 => 26 | 8 => 41 | n => n, fun | 0 => 0 | 3 => 3 | 4 => 4 | 22 => 22 | 23 => 31 | 25 => 58 | n => n, fun | n => n⟩
theorem lPa6 : Go.Proofs.SlLaysH0.n6 Tryd.prog lPa_ren := {
  mixed := by kernel_rfl
  f6 := ⟨Tryd.f26.name, by decide, Tryd.func26.trans (congrArg some (by kernel_rfl))⟩
  t0 := Tryd.underlying0
  a0 := Tryd.isAgg0
  z0 := Tryd.sizeOf0
  v0 := Tryd.zeroValue0
  t3 := Tryd.underlying3
  a3 := Tryd.isAgg3
  z3 := Tryd.sizeOf3
  v3 := Tryd.zeroValue3
  t4 := Tryd.underlying4
  a4 := Tryd.isAgg4
  z4 := Tryd.sizeOf4
  v4 := Tryd.zeroValue4
  t22 := Tryd.underlying22
  a22 := Tryd.isAgg22
  z22 := Tryd.sizeOf22
  v22 := Tryd.zeroValue22
  t25 := Tryd.underlying58
  a25 := Tryd.isAgg58
  z25 := Tryd.sizeOf58
  v25 := Tryd.zeroValue58 }
theorem lPa8 : Go.Proofs.SlLaysH0.n8 Tryd.prog lPa_ren := {
  mixed := by kernel_rfl
  f6 := ⟨Tryd.f26.name, by decide, Tryd.func26.trans (congrArg some (by kernel_rfl))⟩
  f8 := ⟨Tryd.f41.name, by decide, Tryd.func41.trans (congrArg some (by kernel_rfl))⟩
  t0 := Tryd.underlying0
  a0 := Tryd.isAgg0
  z0 := Tryd.sizeOf0
  v0 := Tryd.zeroValue0
  t3 := Tryd.underlying3
  a3 := Tryd.isAgg3
  z3 := Tryd.sizeOf3
  v3 := Tryd.zeroValue3
  t4 := Tryd.underlying4
  a4 := Tryd.isAgg4
  z4 := Tryd.sizeOf4
  v4 := Tryd.zeroValue4
  t22 := Tryd.underlying22
  a22 := Tryd.isAgg22
  z22 := Tryd.sizeOf22
  v22 := Tryd.zeroValue22
  t25 := Tryd.underlying58
  a25 := Tryd.isAgg58
  z25 := Tryd.sizeOf58
  v25 := Tryd.zeroValue58 }
/-- A part, plainly. -/
structure PartD where
  num : Int
  size : Int
  time : Int
  tag : List UInt8
  blob : Int
instance : Inhabited PartD := ⟨⟨0, 0, 0, [], 0⟩⟩
def partL (p : PartD) : List Value := [.int .i64 p.num, .int .i64 p.size, .int .i64 p.time, .string ⟨p.tag.toArray⟩, .int .i64 p.blob]
def partV (p : PartD) : Value := .agg (partL p).toArray
/-- The slice holds these parts. -/
def PartsAt (w : World) (A : Option Addr) (n : Nat) (ps : List PartD) : Prop :=
  n = ps.length ∧ (0 < n → ∃ g off, A = some ⟨g, off, none⟩ ∧ g < w.heap.size ∧ ∀ j (h : j < ps.length), ∀ i v, (partL ps[j])[i]? = some v → w.cell? ⟨g, off + j * 5 + i, none⟩ = some v)
theorem PartsAt.q {w w' : World} {A : Option Addr} {n : Nat} {ps : List PartD} (h : PartsAt w A n ps) (hq : Q w w') : PartsAt w' A n ps :=
  ⟨h.1, fun h0 => let ⟨g, off, e, hg, hc⟩ := h.2 h0; ⟨g, off, e, Nat.lt_of_lt_of_le hg hq.size, fun j hj i v hv => hq.cell (hc j hj i v hv)⟩⟩
def gP (ps : List PartD) (j : Nat) : PartD := ps.getD j default
theorem PartsAt.at {w : World} {A : Option Addr} {n : Nat} {ps : List PartD} (h : PartsAt w A n ps) {j : Nat} (hj : j < n) : ∃ g off, A = some ⟨g, off, none⟩ ∧
    w.cell? ⟨g, off + j * 5, none⟩ = some (.int .i64 (gP ps j).num) ∧ w.cell? ⟨g, off + j * 5 + 1, none⟩ = some (.int .i64 (gP ps j).size) ∧ w.cell? ⟨g, off + j * 5 + 2, none⟩ = some (.int .i64 (gP ps j).time) ∧
    w.cell? ⟨g, off + j * 5 + 3, none⟩ = some (.string ⟨(gP ps j).tag.toArray⟩) ∧ w.cell? ⟨g, off + j * 5 + 4, none⟩ = some (.int .i64 (gP ps j).blob) := by
  obtain ⟨g, off, e, hg, hc⟩ := h.2 (by omega)
  have hj' : j < ps.length := by rw [← h.1]; exact hj
  have hp : ps[j] = gP ps j := by simp [gP, List.getD, hj']
  have := hc j hj'
  rw [hp] at this
  exact ⟨g, off, e, this 0 _ rfl, this 1 _ rfl, this 2 _ rfl, this 3 _ rfl, this 4 _ rfl⟩
end Go.Proofs.YtbhgekhcpagkoaaDoor
/- SHA-256 and MD5, plain: on lists of bytes. -/
set_option linter.unusedVariables false
namespace Go.Proofs.YtbhgekhcpagkoaaDoor
abbrev B32 := BitVec 32
def rl (s : Nat) (x : B32) : B32 := (x <<< s) ||| (x >>> (32 - s))
def xo (x y : B32) : B32 := x ^^^ y
def an (x y : B32) : B32 := x &&& y
def oo (x y : B32) : B32 := x ||| y
def no (x : B32) : B32 := ~~~ x
def ad (x y : B32) : B32 := x + y
def sr (n : Nat) (x : B32) : B32 := x >>> n
/-- Four bytes, the highest first, the lowest first. -/
def be (a b c d : UInt8) : B32 := BitVec.ofNat 32 (a.toNat * 16777216 + b.toNat * 65536 + c.toNat * 256 + d.toNat)
/-- The word at a place. -/
def gW (l : List B32) (i : Nat) : B32 := l.getD i 0#32
def k256 : List B32 := [
    1116352408, 1899447441, 3049323471, 3921009573, 961987163, 1508970993, 2453635748, 2870763221,
    3624381080, 310598401, 607225278, 1426881987, 1925078388, 2162078206, 2614888103, 3248222580,
    3835390401, 4022224774, 264347078, 604807628, 770255983, 1249150122, 1555081692, 1996064986,
    2554220882, 2821834349, 2952996808, 3210313671, 3336571891, 3584528711, 113926993, 338241895,
    666307205, 773529912, 1294757372, 1396182291, 1695183700, 1986661051, 2177026350, 2456956037,
    2730485921, 2820302411, 3259730800, 3345764771, 3516065817, 3600352804, 4094571909, 275423344,
    430227734, 506948616, 659060556, 883997877, 958139571, 1322822218, 1537002063, 1747873779,
    1955562222, 2024104815, 2227730452, 2361852424, 2428436474, 2756734187, 3204031479, 3329325298]
def k5 : List B32 := [
    3614090360, 3905402710, 606105819, 3250441966, 4118548399, 1200080426, 2821735955, 4249261313,
    1770035416, 2336552879, 4294925233, 2304563134, 1804603682, 4254626195, 2792965006, 1236535329,
    4129170786, 3225465664, 643717713, 3921069994, 3593408605, 38016083, 3634488961, 3889429448,
    568446438, 3275163606, 4107603335, 1163531501, 2850285829, 4243563512, 1735328473, 2368359562,
    4294588738, 2272392833, 1839030562, 4259657740, 2763975236, 1272893353, 4139469664, 3200236656,
    681279174, 3936430074, 3572445317, 76029189, 3654602809, 3873151461, 530742520, 3299628645,
    4096336452, 1126891415, 2878612391, 4237533241, 1700485571, 2399980690, 4293915773, 2240044497,
    1873313359, 4264355552, 2734768916, 1309151649, 4149444226, 3174756917, 718787259, 3951481745]
def mixS (x : B32) : B32 := xo (xo (rl 25 x) (rl 14 x)) (sr 3 x)
def mixT (x : B32) : B32 := xo (xo (rl 15 x) (rl 13 x)) (sr 10 x)
/-- One word more of a block's 64. -/
def wordN (b : List UInt8) (w : List B32) (i : Nat) : B32 :=
  if i < 16 then be (gB b (4 * i)) (gB b (4 * i + 1)) (gB b (4 * i + 2)) (gB b (4 * i + 3))
  else ad (ad (ad (gW w (i - 16)) (mixS (gW w (i - 15)))) (gW w (i - 7))) (mixT (gW w (i - 2)))
def wordsN (b : List UInt8) : Nat → List B32
  | 0 => []
  | n + 1 => let w := wordsN b n; w ++ [wordN b w n]
structure St8 where
  (a b c d e f g h : B32)
def round8 (w : List B32) (s : St8) (i : Nat) : St8 :=
  let t := ad (ad (ad (ad s.h (xo (xo (rl 26 s.e) (rl 21 s.e)) (rl 7 s.e))) (xo (an s.e s.f) (an (no s.e) s.g))) (gW k256 i)) (gW w i)
  let u := ad (xo (xo (rl 30 s.a) (rl 19 s.a)) (rl 10 s.a)) (xo (xo (an s.a s.b) (an s.a s.c)) (an s.b s.c))
  ⟨ad t u, s.a, s.b, s.c, ad s.d t, s.e, s.f, s.g⟩
def roundsN (w : List B32) (s : St8) : Nat → St8
  | 0 => s
  | n + 1 => round8 w (roundsN w s n) n
def add8 (s t : St8) : St8 := ⟨ad s.a t.a, ad s.b t.b, ad s.c t.c, ad s.d t.d, ad s.e t.e, ad s.f t.f, ad s.g t.g, ad s.h t.h⟩
/-- One block of 64 bytes. -/
def mix256L (s : St8) (b : List UInt8) : St8 := add8 s (roundsN (wordsN b 64) s 64)
def start256 : St8 := ⟨0x6a09e667#32, 0xbb67ae85#32, 0x3c6ef372#32, 0xa54ff53a#32, 0x510e527f#32, 0x9b05688c#32, 0x1f83d9ab#32, 0x5be0cd19#32⟩
/-- The first n blocks of a text. -/
def blocks256 (l : List UInt8) : Nat → St8
  | 0 => start256
  | n + 1 => mix256L (blocks256 l n) (sub l (64 * n) (64 * n + 64))
/-- A text with a bit 1, bits 0 and its size behind it. -/
def padL (high : Bool) (l : List UInt8) : List UInt8 :=
  let z : Nat := (119 - l.length % 64) % 64
  let b : List UInt8 := (List.range 8).map fun i => byteOf ((((8 * l.length) / 256 ^ i % 256 : Nat) : Int))
  l ++ [128] ++ List.replicate z 0 ++ (if high then b.reverse else b)
def be4 (x : B32) : List UInt8 := [byteOf ((x.toNat / 16777216 % 256 : Nat) : Int), byteOf ((x.toNat / 65536 % 256 : Nat) : Int), byteOf ((x.toNat / 256 % 256 : Nat) : Int), byteOf ((x.toNat % 256 : Nat) : Int)]
def out8 (s : St8) : List UInt8 := be4 s.a ++ be4 s.b ++ be4 s.c ++ be4 s.d ++ be4 s.e ++ be4 s.f ++ be4 s.g ++ be4 s.h
def sha256 (l : List UInt8) : List UInt8 := let p := padL true l; out8 (blocks256 p (p.length / 64))
theorem wordsN_length (b : List UInt8) (n : Nat) : (wordsN b n).length = n := by
  induction n with
  | zero => rfl
  | succ n ih => simp [wordsN, ih]
/-- The words so far, the others 0. -/
def wordsZ (b : List UInt8) (k : Nat) : List B32 := wordsN b k ++ List.replicate (64 - k) 0#32
theorem wordsZ_old (b : List UInt8) (k i : Nat) (h : i < k) : gW (wordsZ b k) i = gW (wordsN b k) i := by
  unfold gW wordsZ
  simp [List.getD, List.getElem?_append, wordsN_length, h]
theorem wordsZ_set (b : List UInt8) (k : Nat) (h : k < 64) : (wordsZ b k).set k (wordN b (wordsN b k) k) = wordsZ b (k + 1) := by
  unfold wordsZ
  rw [List.set_append, if_neg (by rw [wordsN_length]; omega), wordsN_length, Nat.sub_self]
  have e : 64 - k = (64 - (k + 1)) + 1 := by omega
  rw [e, List.replicate_succ]
  simp [wordsN]
theorem wordsZ_all (b : List UInt8) : wordsZ b 64 = wordsN b 64 := by simp [wordsZ]
theorem be_bits (a b c d : UInt8) : bits .or .u32 (bits .or .u32 (bits .or .u32 ((a.toNat : Int) % 4294967296 * 16777216 % 4294967296) ((b.toNat : Int) % 4294967296 * 65536 % 4294967296)) ((c.toNat : Int) % 4294967296 * 256 % 4294967296)) ((d.toNat : Int) % 4294967296) =
    ((be a b c d).toNat : Int) := by
  have a1 := a.toNat_lt
  have b1 := b.toNat_lt
  have c1 := c.toNat_lt
  have d1 := d.toNat_lt
  have wr : ∀ n : Int, 0 ≤ n → n < 2 ^ 32 → IntKind.u32.wrap n = n := fun n h0 h1 => by rw [IntKind.wrap_u32]; omega
  rw [show (a.toNat : Int) % 4294967296 * 16777216 % 4294967296 = (a.toNat : Int) * 16777216 from by omega, show (b.toNat : Int) % 4294967296 * 65536 % 4294967296 = (b.toNat : Int) * 65536 from by omega,
    show (c.toNat : Int) % 4294967296 * 256 % 4294967296 = (c.toNat : Int) * 256 from by omega, show (d.toNat : Int) % 4294967296 = (d.toNat : Int) from by omega]
  rw [bits_join .u32 32 (by decide) wr 24 ((a.toNat : Int) * 16777216) ((b.toNat : Int) * 65536) (by omega) (by omega) (by omega) (by omega) (by omega) (by omega)]
  rw [bits_join .u32 32 (by decide) wr 16 ((a.toNat : Int) * 16777216 + (b.toNat : Int) * 65536) ((c.toNat : Int) * 256) (by omega) (by omega) (by omega) (by omega) (by omega) (by omega)]
  rw [bits_join .u32 32 (by decide) wr 8 ((a.toNat : Int) * 16777216 + (b.toNat : Int) * 65536 + (c.toNat : Int) * 256) (d.toNat : Int) (by omega) (by omega) (by omega) (by omega) (by omega) (by omega)]
  unfold be
  rw [BitVec.toNat_ofNat]
  omega
end Go.Proofs.YtbhgekhcpagkoaaDoor
/- Numbers of 32 bits as rows of bits; joins of bytes. -/
namespace Go.Proofs.YtbhgekhcpagkoaaDoor
open Go Go.RowKit

/-- A number of 32 bits as the walk holds it. -/
theorem ofInt32 (x : BitVec 32) : BitVec.ofInt 32 (x.toNat : Int) = x := by simp
theorem wrap32_lt (x : BitVec 32) : IntKind.u32.wrap (x.toNat : Int) = (x.toNat : Int) := by
  rw [IntKind.wrap_u32]; have := x.isLt; omega
theorem xor32 (x y : BitVec 32) : bits .xor .u32 (x.toNat : Int) (y.toNat : Int) = ((x ^^^ y).toNat : Int) := by
  show IntKind.u32.wrap ((BitVec.ofInt 32 _ ^^^ BitVec.ofInt 32 _).toNat : Int) = _
  rw [ofInt32, ofInt32, wrap32_lt]
theorem and32 (x y : BitVec 32) : bits .and .u32 (x.toNat : Int) (y.toNat : Int) = ((x &&& y).toNat : Int) := by
  show IntKind.u32.wrap ((BitVec.ofInt 32 _ &&& BitVec.ofInt 32 _).toNat : Int) = _
  rw [ofInt32, ofInt32, wrap32_lt]
theorem or32 (x y : BitVec 32) : bits .or .u32 (x.toNat : Int) (y.toNat : Int) = ((x ||| y).toNat : Int) := by
  show IntKind.u32.wrap ((BitVec.ofInt 32 _ ||| BitVec.ofInt 32 _).toNat : Int) = _
  rw [ofInt32, ofInt32, wrap32_lt]
theorem not32 (x : BitVec 32) : bits .xor .u32 4294967295 (x.toNat : Int) = ((~~~x).toNat : Int) := by
  have e : (4294967295 : Int) = ((BitVec.allOnes 32).toNat : Int) := by decide
  rw [e, xor32, BitVec.allOnes_xor]
theorem not32m (x : BitVec 32) : bits .xor .u32 IntKind.u32.max (x.toNat : Int) = ((~~~x).toNat : Int) := not32 x
theorem shr32 (x : BitVec 32) : (x.toNat : Int) / (2 : Int) = ((x >>> 1).toNat : Int) := by
  rw [BitVec.toNat_ushiftRight, Nat.shiftRight_eq_div_pow]; omega
theorem add32 (x y : BitVec 32) : ((x.toNat : Int) + (y.toNat : Int)) % 4294967296 = ((x + y).toNat : Int) := by
  rw [BitVec.toNat_add]; omega
theorem of32 (n : Int) (h0 : 0 ≤ n) (h1 : n < 4294967296) : ∃ x : BitVec 32, n = (x.toNat : Int) :=
  ⟨BitVec.ofNat 32 n.toNat, by rw [BitVec.toNat_ofNat]; omega⟩

theorem wraps_i64 (n : Int) (h₀ : 0 ≤ n) (h₁ : n < 2 ^ 63) : IntKind.i64.wrap n = n := by rw [IntKind.wrap_i64]; omega
theorem or_i64 (i : Nat) (x y : Int) (hx₀ : 0 ≤ x) (hx : x % 2 ^ i = 0) (hx₁ : x < 2 ^ 63) (hy₀ : 0 ≤ y) (hy : y < 2 ^ i) (hy₁ : y < 2 ^ 63) : bits .or .i64 x y = x + y :=
  bits_join .i64 63 (by decide) wraps_i64 i x y hx₀ hx hx₁ hy₀ hy hy₁
/-- Four bytes are one number. -/
theorem or_four (a b c d : Int) (a0 : 0 ≤ a) (a1 : a < 256) (b0 : 0 ≤ b) (b1 : b < 256) (c0 : 0 ≤ c) (c1 : c < 256) (d0 : 0 ≤ d) (d1 : d < 256) :
    bits .or .i64 (bits .or .i64 (bits .or .i64 (a * 16777216) (b * 65536)) (c * 256)) d = a * 16777216 + b * 65536 + c * 256 + d := by
  rw [or_i64 24 (a * 16777216) (b * 65536) (by omega) (by omega) (by omega) (by omega) (by omega) (by omega)]
  rw [or_i64 16 (a * 16777216 + b * 65536) (c * 256) (by omega) (by omega) (by omega) (by omega) (by omega) (by omega)]
  rw [or_i64 8 (a * 16777216 + b * 65536 + c * 256) d (by omega) (by omega) (by omega) (by omega) (by omega) (by omega)]
end Go.Proofs.YtbhgekhcpagkoaaDoor
/- Turning a number of 32 bits. -/
set_option linter.unusedVariables false
namespace Go.Proofs.YtbhgekhcpagkoaaDoor
open Go Go.RowKit
theorem rl_bits (s : Nat) (x : BitVec 32) (hs : s < 32) :
    bits .or .u32 (IntKind.u32.wrap ((x.toNat : Int) * 2 ^ s)) ((x.toNat : Int) / 2 ^ (32 - s)) = ((rl s x).toNat : Int) := by
  unfold rl
  rw [← or32]
  congr 1
  · rw [IntKind.wrap_u32, BitVec.toNat_shiftLeft, Nat.shiftLeft_eq, Int.natCast_emod, Int.natCast_mul, Int.natCast_pow]; rfl
  · rw [BitVec.toNat_ushiftRight, Nat.shiftRight_eq_div_pow, Int.natCast_ediv, Int.natCast_pow]; rfl
set_option maxHeartbeats 400000 in
theorem RotateLeft32_any (x : BitVec 32) (k : Int) (s : Nat) (w : World) (hs : s < 32) (h : bits .and .u64 (IntKind.u64.wrap k) 31 = (s : Int)) :
    Calls Tryd.prog 61 #[.int .u32 (x.toNat : Int), .int .i64 k] w fun e w' => e = .returned (.int .u32 ((rl s x).toNat : Int)) ∧ w = w' := by
  go_enter Tryd.func61, Tryd.ntmps61
  go_wp2_with fail
  go_ret
  refine ⟨ret_int ?_, rfl⟩
  rw [← rl_bits s x hs, IntKind.wrap_u32]
set_option maxHeartbeats 400000 in
theorem turn_any (x : BitVec 32) (k : Int) (s : Nat) (w : World) (h0 : 0 ≤ k) (h1 : k < 32) (hs : s < 32) (h : bits .and .u64 (IntKind.u64.wrap (-k)) 31 = (s : Int)) :
    Calls Tryd.prog 60 #[.int .u32 (x.toNat : Int), .int .i64 k] w fun e w' => e = .returned (.int .u32 ((rl s x).toNat : Int)) ∧ w = w' := by
  go_enter Tryd.func60, Tryd.ntmps60
  go_wp2_with fail
  refine (RotateLeft32_any x _ s _ hs h).mono ?_
  rintro e w1 ⟨rfl, rfl⟩
  go_wp2_with fail
  go_ret
  exact ⟨rfl, rfl⟩
/-- x turned k bits to the right. -/
def tr (k : Int) (x : B32) : B32 := rl (32 - k.toNat) x
theorem and31 : ∀ k : Nat, k < 32 → 0 < k → bits .and .u64 (IntKind.u64.wrap (-(k : Int))) 31 = ((32 - k : Nat) : Int) := by decide +kernel
theorem turnK (x : B32) (k : Int) (w : World) (h0 : 0 < k) (h1 : k < 32) : Calls Tryd.prog 60 #[.int .u32 (x.toNat : Int), .int .i64 k] w fun e w' => e = .returned (.int .u32 ((tr k x).toNat : Int)) ∧ w = w' := by
  refine turn_any x k (32 - k.toNat) w (by omega) h1 (by omega) ?_
  have := and31 k.toNat (by omega) (by omega)
  rw [show ((k.toNat : Nat) : Int) = k from by omega] at this
  exact this
theorem sr_val (n : Nat) (x : B32) : (x.toNat : Int) / 2 ^ n = ((sr n x).toNat : Int) := by
  unfold sr
  rw [BitVec.toNat_ushiftRight, Nat.shiftRight_eq_div_pow, Int.natCast_ediv, Int.natCast_pow]; rfl
theorem mixS_bits (x : B32) : bits .xor .u32 (bits .xor .u32 ((tr 7 x).toNat : Int) ((tr 18 x).toNat : Int)) ((x.toNat : Int) / 8) = ((mixS x).toNat : Int) := by
  rw [show (8 : Int) = 2 ^ 3 from by decide, sr_val, xor32, xor32]; rfl
theorem mixT_bits (x : B32) : bits .xor .u32 (bits .xor .u32 ((tr 17 x).toNat : Int) ((tr 19 x).toNat : Int)) ((x.toNat : Int) / 1024) = ((mixT x).toNat : Int) := by
  rw [show (1024 : Int) = 2 ^ 10 from by decide, sr_val, xor32, xor32]; rfl
theorem ad_val (x y : B32) : ((ad x y).toNat : Int) = ((x.toNat : Int) + (y.toNat : Int)) % 4294967296 := (add32 x y).symm
end Go.Proofs.YtbhgekhcpagkoaaDoor
/- Worlds that change listed blocks alone. -/
set_option linter.unusedVariables false
namespace Go.Proofs.YtbhgekhcpagkoaaDoor
open Go Go.RowKit
theorem lt_of_heap {w : World} {g : Nat} {o : Obj} (h : w.heap[g]? = some o) : g < w.heap.size := by
  rcases Nat.lt_or_ge g w.heap.size with h1 | h1
  · exact h1
  · rw [Array.getElem?_eq_none h1] at h; cases h
theorem Q.setRow {a b : World} (h : Q a b) {g : Nat} (hg : a.heap.size ≤ g) (cs : Array Value) : Q a (b.setRow g cs) :=
  Q.below h ⟨rfl, rfl, rfl, by simp, fun k hk => by
    simp only [World.setRow, Array.getElem?_modify]
    rw [if_neg (by omega)]⟩
theorem add_off (g o n : Nat) : (⟨g, o, none⟩ : Addr).add n = ⟨g, o + n, none⟩ := by
  unfold Addr.add; split <;> simp_all
/-- Nothing that stood in w has changed, but in these blocks. -/
structure GX (S : List Nat) (w w' : World) : Prop where
  os : w'.os = w.os
  tape : w'.tape = w.tape
  output : w'.output = w.output
  size : w.heap.size ≤ w'.heap.size
  block : ∀ k, k < w.heap.size → k ∉ S → w'.heap[k]? = w.heap[k]?
theorem GX.refl (S : List Nat) (w : World) : GX S w w := ⟨rfl, rfl, rfl, Nat.le_refl _, fun _ _ _ => rfl⟩
theorem GX.trans {S : List Nat} {a b c : World} (h : GX S a b) (k : GX S b c) : GX S a c :=
  ⟨k.os.trans h.os, k.tape.trans h.tape, k.output.trans h.output, Nat.le_trans h.size k.size, fun i hi hr => (k.block i (Nat.lt_of_lt_of_le hi h.size) hr).trans (h.block i hi hr)⟩
theorem GX.mono {S S' : List Nat} {a b : World} (h : GX S a b) (hs : ∀ x ∈ S, x ∈ S') : GX S' a b :=
  ⟨h.os, h.tape, h.output, h.size, fun k hk hn => h.block k hk (fun hm => hn (hs k hm))⟩
theorem GX.gb {S : List Nat} {a b : World} {k : Nat} (h : a.grownBy b (some k)) (hk : k ∈ S) : GX S a b :=
  ⟨h.os, h.tape, h.output, h.size, fun i hi hn => h.block i hi (by intro e; injection e with e; exact hn (e ▸ hk))⟩
theorem GX.q {S : List Nat} {a b : World} (h : Q a b) : GX S a b := ⟨h.os, h.tape, h.output, h.size, fun k hk _ => Below.block h k hk⟩
theorem GX.drew {S : List Nat} {a b : World} (h : GX S a b) : GX S a b.drew := ⟨h.os, h.tape, h.output, h.size, h.block⟩
theorem GX.set {S : List Nat} {a b : World} (h : GX S a b) {g : Nat} (hg : g ∈ S) (i : Nat) (v : Value) : GX S a (b.setCell ⟨g, i, none⟩ v) :=
  ⟨h.os, h.tape, h.output, by simpa using h.size, fun k hk hr => by
    rw [heap_setCell_other b ⟨g, i, none⟩ k v (by intro e; exact hr (by rw [e]; exact hg))]; exact h.block k hk hr⟩
theorem GX.setRow {S : List Nat} {a b : World} (h : GX S a b) {g : Nat} (hg : g ∈ S) (cs : Array Value) : GX S a (b.setRow g cs) :=
  ⟨h.os, h.tape, h.output, by simpa [World.setRow] using h.size, fun k hk hr => by
    simp only [World.setRow, Array.getElem?_modify]
    rw [if_neg (by intro e; exact hr (by rw [← e]; exact hg))]
    exact h.block k hk hr⟩
/-- What changed new blocks alone. -/
theorem GX.toQ {S : List Nat} {w a b : World} (h : GX S a b) (hq : Q w a) (hn : ∀ k ∈ S, w.heap.size ≤ k) : Q w b :=
  Q.below hq ⟨h.os, h.tape, h.output, by have := h.size; have := hq.size; omega, fun k hk => h.block k (Nat.lt_of_lt_of_le hk hq.size) (fun hm => by have := hn k hm; omega)⟩
theorem GX.heap {S : List Nat} {a b : World} (h : GX S a b) {k : Nat} {o : Obj} (hk : k ∉ S) (ho : a.heap[k]? = some o) : b.heap[k]? = some o :=
  (h.block k (lt_of_heap ho) hk).trans ho
end Go.Proofs.YtbhgekhcpagkoaaDoor
/- SHA-256: what lies in memory: blocks of numbers and bytes; worlds that write one block alone. -/
set_option linter.unusedVariables false
namespace Go.Proofs.YtbhgekhcpagkoaaDoor
open Go Go.RowKit
def u32V (x : B32) : Value := .int .u32 (x.toNat : Int)
def u8V (x : UInt8) : Value := .int .u8 (x.toNat : Int)
/-- Eight numbers in a block. -/
def St8.list (s : St8) : List B32 := [s.a, s.b, s.c, s.d, s.e, s.f, s.g, s.h]
def gV (l : List B32) (i : Nat) : Int := ((gW l i).toNat : Int)
def StAt (w : World) (B : Nat) (l : List B32) : Prop := ∀ i, i < l.length → w.cell? ⟨B, i, none⟩ = some (.int .u32 ((gW l i).toNat : Int)) ∧ w.frozen? ⟨B, i, none⟩ = false
def arrM (M : List B32) : Array Value := (M.map u32V).toArray
def arrB (b : List UInt8) : Array Value := (b.map u8V).toArray
theorem arr_all (M : List B32) : (arrM M).all (·.oneCell') = true := by
  rw [Array.all_eq_true_iff_forall_mem]
  intro v hv
  have : v ∈ M.map u32V := by simpa [arrM] using hv
  obtain ⟨x, _, rfl⟩ := List.mem_map.1 this
  rfl
theorem arr_size (M : List B32) : (arrM M).size = M.length := by simp [arrM]
theorem info64 : (Tryd.prog.info? 79).map (·.size) = some 64 := by kernel_rfl
theorem build_const {P : Program} {ops : Array Oper} {rest : List Oper} {o : Oper} {a : Act} {w : World} {Q : Exit → Act → World → Prop} (hg : o.guard = none) (t : TypeId) (cps : List (Nat × Value)) (cs : Array Value)
    (dst : Option Tmp) (hd : o.dst = dst) (ho : o.op = .build t (cps.map fun p => (p.1, Operand.const p.2)).toArray) (hf : P.built t cps = some cs)
    (h : wpList P ops Q rest (a.put dst (.agg cs)) w) : wpList P ops Q (o :: rest) a w := by
  subst hd
  have e : ((cps.map fun p => (p.1, Operand.const p.2)).toArray.map fun (i, x) => (i, a.eval x)).toList = cps := by
    simp only [List.map_toArray, List.map_map]
    conv => rhs; rw [← List.map_id cps]
    rfl
  exact wpList_build hg t _ ho (by rw [e, hf]; rfl) (by rw [e, hf]; exact h)
/-- A table of constants, as the parts of a literal. -/
def partsOf (M : List B32) : List (Nat × Value) := M.zipIdx.map fun p => (p.2, u32V p.1)
theorem k256_built : Tryd.prog.built 79 (partsOf k256) = some (arrM k256) := by kernel_rfl
/-- 64 numbers (bytes) in a block of their own. -/
def ArrAt (w : World) (g : Nat) (M : List B32) : Prop := w.heap[g]? = some (.cells (arrM M) 79 (0, 0)) ∧ M.length = 64
def BytAt (w : World) (g : Nat) (b : List UInt8) : Prop := w.heap[g]? = some (.cells (arrB b) 86 (0, 0)) ∧ b.length = 64
theorem ArrAt.lt {w : World} {g : Nat} {M : List B32} (h : ArrAt w g M) : g < w.heap.size := lt_of_heap h.1
theorem BytAt.lt {w : World} {g : Nat} {M : List UInt8} (h : BytAt w g M) : g < w.heap.size := lt_of_heap h.1
theorem ArrAt.cell {w : World} {g : Nat} {M : List B32} (h : ArrAt w g M) (i : Nat) (hi : i < 64) : w.cell? ⟨g, i, none⟩ = some (.int .u32 ((gW M i).toNat : Int)) := by
  have h2 := h.2
  unfold World.cell?
  rw [h.1]
  simp [arrM, u32V, gW, List.getD, h2, hi]
theorem BytAt.cell {w : World} {g : Nat} {M : List UInt8} (h : BytAt w g M) (i : Nat) (hi : i < 64) : w.cell? ⟨g, i, none⟩ = some (.int .u8 ((gB M i).toNat : Int)) := by
  have h2 := h.2
  unfold World.cell?
  rw [h.1]
  simp [arrB, u8V, gB, List.getD, h2, hi]
theorem ArrAt.frozen {w : World} {g : Nat} {M : List B32} (h : ArrAt w g M) (i : Nat) : w.frozen? ⟨g, i, none⟩ = false := frozen_of_row w g i _ _ h.1
theorem ArrAt.set {w : World} {g : Nat} {M : List B32} (h : ArrAt w g M) (i : Nat) (x : B32) : ArrAt (w.setCell ⟨g, i, none⟩ (.int .u32 (x.toNat : Int))) g (M.set i x) := by
  refine ⟨?_, by rw [List.length_set]; exact h.2⟩
  rw [heap_setCell_same w g i _ _ _ h.1]
  congr 2
  unfold arrM
  rw [← Array.toList_inj]
  simp [u32V, List.map_set]
theorem ArrAt.other {w : World} {g g' : Nat} {M : List B32} (h : ArrAt w g M) (hg : g ≠ g') (i : Nat) (v : Value) : ArrAt (w.setCell ⟨g', i, none⟩ v) g M :=
  ⟨by rw [heap_setCell_other w ⟨g', i, none⟩ g v hg]; exact h.1, h.2⟩
theorem BytAt.other {w : World} {g g' : Nat} {M : List UInt8} (h : BytAt w g M) (hg : g ≠ g') (i : Nat) (v : Value) : BytAt (w.setCell ⟨g', i, none⟩ v) g M :=
  ⟨by rw [heap_setCell_other w ⟨g', i, none⟩ g v hg]; exact h.1, h.2⟩
theorem ArrAt.alloc {w : World} {g : Nat} {M : List B32} (h : ArrAt w g M) (o : Obj) : ArrAt (w.alloc o) g M := ⟨(Below.heap_alloc w o g h.lt).trans h.1, h.2⟩
theorem BytAt.alloc {w : World} {g : Nat} {M : List UInt8} (h : BytAt w g M) (o : Obj) : BytAt (w.alloc o) g M := ⟨(Below.heap_alloc w o g h.lt).trans h.1, h.2⟩
theorem ArrAt.new (w : World) (M : List B32) (h : M.length = 64) : ArrAt (w.alloc (.cells (arrM M) 79)) w.heap.size M := ⟨heap_alloc_new w _, h⟩
/-- The worlds behind the first steps. -/
theorem mix_start (w : World) (b : List UInt8) (hb : b.length = 64) (cs : Array Value) :
    ∃ w3, w3 = ((w.alloc (.cells (arrB b) 86)).alloc (.cells cs 79)).setRow (w.heap.size + 1) (arrM k256) ∧ w3.heap.size = w.heap.size + 2 ∧ BytAt w3 w.heap.size b ∧ ArrAt w3 (w.heap.size + 1) k256 ∧ Q w w3 := by
  refine ⟨_, rfl, by simp, ⟨?_, hb⟩, ⟨?_, rfl⟩, Q.setRow (((Q.refl w).alloc _).alloc _) (by omega) _⟩
  · simp only [World.setRow, Array.getElem?_modify]
    rw [if_neg (by omega)]
    exact heap_alloc2_old _ _ _
  · simp only [World.setRow, Array.getElem?_modify, if_true]
    rw [heap_alloc2_new]
    rfl
theorem len64 : Tryd.prog.arrayLen 86 = 64 := by kernel_rfl
theorem und64 : Tryd.prog.underlying 86 = some (.array (Tryd.prog.arrayLen 86) (Tryd.prog.elem 86)) := by kernel_rfl
theorem size8 (w : World) : (sizeOf (Tryd.prog.elem 86)).run Tryd.prog w = .ok 1 w := by
  have h : (Tryd.prog.info? (Tryd.prog.elem 86)).map (·.size) = some 1 := by kernel_rfl
  cases hq : Tryd.prog.info? (Tryd.prog.elem 86) with
  | none => rw [hq] at h; cases h
  | some i => rw [hq] at h; simp at h; simp [sizeOf, typeInfo, hq, h]
theorem slice64 (w : World) (g o n : Nat) (i : Int) (hi : i = (n : Int)) (hn : n < 64) :
    (Instr.sliceAt 86 (.pointer (some ⟨g, o, none⟩)) (some (.int .i64 i)) none none).run Tryd.prog w = .ok (.slice (some ⟨g, o + n, none⟩) (64 - n) (64 - n)) w := by
  subst hi
  rw [run_sliceAt_array_l w _ _ und64 .i64 (n : Int) (by omega) (by rw [len64]; omega), size8]
  simp only [Result.andThen_ok, slicedAt, len64, Int.toNat_natCast, Nat.mul_one]
  rw [if_neg (by omega), add_off]
theorem ArrAt.q {w w' : World} {g : Nat} {M : List B32} (h : ArrAt w g M) (hq : Q w w') : ArrAt w' g M := ⟨hq.block h.1, h.2⟩
theorem BytAt.q {w w' : World} {g : Nat} {M : List UInt8} (h : BytAt w g M) (hq : Q w w') : BytAt w' g M := ⟨hq.block h.1, h.2⟩
theorem frozen_q {w w' : World} {a : Addr} (hq : Q w w') (h : a.block < w.heap.size) : w'.frozen? a = w.frozen? a := by
  have e : w'.heap[a.block]? = w.heap[a.block]? := Below.block hq a.block h
  unfold World.frozen?
  rw [e]
theorem StAt.lt {w : World} {B : Nat} {s : St8} (h : StAt w B s.list) : B < w.heap.size := lt_of_cell (h 0 (by simp [St8.list])).1
theorem StAt.q {w w' : World} {B : Nat} {s : St8} (h : StAt w B s.list) (hq : Q w w') : StAt w' B s.list :=
  fun i hi => ⟨hq.cell (h i hi).1, (frozen_q hq h.lt).trans (h i hi).2⟩
/-- Eight numbers in a block of their own. -/
def V8At (w : World) (g : Nat) (s : St8) : Prop := w.heap[g]? = some (.cells (arrM s.list) 94 (0, 0))
theorem V8At.lt {w : World} {g : Nat} {s : St8} (h : V8At w g s) : g < w.heap.size := lt_of_heap h
theorem V8At.cell {w : World} {g : Nat} {s : St8} (h : V8At w g s) (i : Nat) (hi : i < 8) : w.cell? ⟨g, i, none⟩ = some (.int .u32 ((gW s.list i).toNat : Int)) := by
  unfold World.cell?
  rw [h]
  have e : (arrM s.list)[i]? = some (u32V (gW s.list i)) := by
    match i, hi with
    | 0, _ => rfl
    | 1, _ => rfl
    | 2, _ => rfl
    | 3, _ => rfl
    | 4, _ => rfl
    | 5, _ => rfl
    | 6, _ => rfl
    | 7, _ => rfl
  exact e
theorem info4 : (Tryd.prog.info? 78).map (·.size) = some 1 := by kernel_rfl
theorem copy_state (w : World) (sb cap : Nat) (s : St8) (hs : StAt w sb s.list) :
    ∃ w5, (Builtin.copy_ #[84, 84] 3 #[.slice (some ⟨w.heap.size, 0, none⟩) 8 8, .slice (some ⟨sb, 0, none⟩) 8 cap]).run Tryd.prog
      (w.alloc (.cells #[.int .u32 0, .int .u32 0, .int .u32 0, .int .u32 0, .int .u32 0, .int .u32 0, .int .u32 0, .int .u32 0] 94)) = .ok (goInt 8) w5 ∧
      w5.heap.size = w.heap.size + 1 ∧ V8At w5 w.heap.size s ∧ Q w w5 := by
  have hA : Q w (w.alloc (.cells #[.int .u32 0, .int .u32 0, .int .u32 0, .int .u32 0, .int .u32 0, .int .u32 0, .int .u32 0, .int .u32 0] 94)) := (Q.refl w).alloc _
  have h := run_copy_row (P := Tryd.prog) _ 84 84 3 78 w.heap.size 0 8 8 ⟨sb, 0, none⟩ 8 cap _ 94 (s.list.map u32V) Tryd.underlying84 info4 (heap_alloc_new w (.cells #[.int .u32 0, .int .u32 0, .int .u32 0, .int .u32 0, .int .u32 0, .int .u32 0, .int .u32 0, .int .u32 0] 94)) rfl
    (by
      intro j v hv
      have hj : j < s.list.length := by
        rcases Nat.lt_or_ge j s.list.length with h | h
        · exact h
        · rw [List.getElem?_eq_none (by simpa using h)] at hv; cases hv
      rw [add_off, Nat.zero_add]
      rw [hA.cell (hs j hj).1]
      rw [List.getElem?_map, List.getElem?_eq_getElem hj] at hv
      simp only [Option.map_some, Option.some.injEq] at hv
      rw [← hv]
      unfold u32V gW
      simp [List.getD, hj])
    (by simp [St8.list]) (by
      intro v hv
      obtain ⟨x, _, rfl⟩ := List.mem_map.1 hv
      rfl)
  refine ⟨_, h, by simp, ?_, Q.setRow hA (Nat.le_refl _) _⟩
  unfold V8At
  simp only [World.setRow, Array.getElem?_modify, if_true]
  rw [heap_alloc_new]
  rfl
theorem Q.gb {w w' : World} (h : Q w w') (row : Option Nat) : w.grownBy w' row := ⟨h.os, h.tape, h.output, h.size, fun k hk _ => Below.block h k hk⟩
theorem gb_trans {a b c : World} {row : Option Nat} (h : a.grownBy b row) (k : b.grownBy c row) : a.grownBy c row :=
  ⟨k.os.trans h.os, k.tape.trans h.tape, k.output.trans h.output, Nat.le_trans h.size k.size, fun i hi hr => (k.block i (Nat.lt_of_lt_of_le hi h.size) hr).trans (h.block i hi hr)⟩
theorem gb_set {a b : World} {g : Nat} (h : a.grownBy b (some g)) (i : Nat) (v : Value) : a.grownBy (b.setCell ⟨g, i, none⟩ v) (some g) :=
  ⟨h.os, h.tape, h.output, by simpa using h.size, fun k hk hr => by
    rw [heap_setCell_other b ⟨g, i, none⟩ k v (by intro e; exact hr (by rw [e]))]; exact h.block k hk hr⟩
theorem gb_drew {a b : World} {row : Option Nat} (h : a.grownBy b row) : a.grownBy b.drew row := ⟨h.os, h.tape, h.output, h.size, h.block⟩
theorem index8 (R : St8) (k : Nat) (h : k < 8) (w : World) : (Instr.index 94 (.agg #[.int .u32 (R.a.toNat : Int), .int .u32 (R.b.toNat : Int), .int .u32 (R.c.toNat : Int), .int .u32 (R.d.toNat : Int), .int .u32 (R.e.toNat : Int), .int .u32 (R.f.toNat : Int), .int .u32 (R.g.toNat : Int), .int .u32 (R.h.toNat : Int)]) (.int .i64 (k : Int))).run Tryd.prog w = .ok (.int .u32 ((gW R.list k).toNat : Int)) w := by
  obtain rfl | rfl | rfl | rfl | rfl | rfl | rfl | rfl : k = 0 ∨ k = 1 ∨ k = 2 ∨ k = 3 ∨ k = 4 ∨ k = 5 ∨ k = 6 ∨ k = 7 := by omega
  all_goals kernel_rfl
/-- The first k sums made. -/
def addP (s t : List B32) : Nat → List B32
  | 0 => s
  | k + 1 => (addP s t k).set k (ad (gW s k) (gW t k))
theorem addP_length (s t : List B32) (k : Nat) : (addP s t k).length = s.length := by
  induction k with
  | zero => rfl
  | succ k ih => simp [addP, ih]
theorem addP_old (s t : List B32) (k i : Nat) (h : k ≤ i) : gW (addP s t k) i = gW s i := by
  induction k with
  | zero => rfl
  | succ k ih =>
    have : k ≠ i := by omega
    rw [← ih (by omega)]
    show ((addP s t k).set k (ad (gW s k) (gW t k))).getD i 0#32 = (addP s t k).getD i 0#32
    simp [List.getD, this]
theorem addP_all (s t : St8) : addP s.list t.list 8 = (add8 s t).list := rfl
theorem StAt.set {w : World} {g : Nat} {l : List B32} (h : StAt w g l) (i : Nat) (x : B32) (hi : i < l.length) : StAt (w.setCell ⟨g, i, none⟩ (.int .u32 (x.toNat : Int))) g (l.set i x) := by
  intro j hj
  rw [List.length_set] at hj
  obtain ⟨h1, h2⟩ := h j hj
  by_cases e : i = j
  · subst e
    obtain ⟨h3, h4⟩ := h i hi
    refine ⟨?_, ?_⟩
    · rw [World.cell?_setCell_same w _ _ h3]
      simp [gW, List.getD, hi]
    · rw [World.frozen?_setCell]; exact h4
  · refine ⟨?_, ?_⟩
    · rw [World.cell?_setCell_other w _ _ _ (by intro e2; cases e2; exact e rfl)]
      rw [h1]
      simp [gW, List.getD, e]
    · rw [World.frozen?_setCell]; exact h2
theorem round_a (w : List B32) (R : St8) (k : Nat) (KK WW : B32) (h1 : gW k256 k = KK) (h2 : gW w k = WW) :
    (((R.h.toNat : Int) + ((xo (xo (rl 26 R.e) (rl 21 R.e)) (rl 7 R.e)).toNat : Int) + ((xo (an R.e R.f) (an (no R.e) R.g)).toNat : Int) + (KK.toNat : Int) + (WW.toNat : Int)) % 4294967296 +
      (((xo (xo (rl 30 R.a) (rl 19 R.a)) (rl 10 R.a)).toNat : Int) + ((xo (xo (an R.a R.b) (an R.a R.c)) (an R.b R.c)).toNat : Int)) % 4294967296) % 4294967296 = ((round8 w R k).a.toNat : Int) := by
  unfold round8
  simp only
  rw [h1, h2, ad_val, ad_val, ad_val, ad_val, ad_val, ad_val]
  omega
theorem round_e (w : List B32) (R : St8) (k : Nat) (KK WW : B32) (h1 : gW k256 k = KK) (h2 : gW w k = WW) :
    ((R.d.toNat : Int) + ((R.h.toNat : Int) + ((xo (xo (rl 26 R.e) (rl 21 R.e)) (rl 7 R.e)).toNat : Int) + ((xo (an R.e R.f) (an (no R.e) R.g)).toNat : Int) + (KK.toNat : Int) + (WW.toNat : Int)) % 4294967296) % 4294967296 = ((round8 w R k).e.toNat : Int) := by
  unfold round8
  simp only
  rw [h1, h2, ad_val, ad_val, ad_val, ad_val, ad_val]
  omega
end Go.Proofs.YtbhgekhcpagkoaaDoor
