/- Texts of this proof, laid into one: Base, KaA, KaB. -/
import Derived.Test.YtlhhiiemojhjdaaDoorProg
import Derived.WalkKit
import Derived.Lib.Hide
import Derived.BigQuiet
import Derived.Laws.IdiomStrings
import Derived.Lib.ValidU
import Derived.Lib.RuneBytes
/- Base: worlds that grow only (Q), a region that draws its order whose calls may lay new memory, texts made of bytes. -/
namespace Go.Proofs.YtlhhiiemojhjdaaDoor
open Go Go.RowKit

/-- w' is w with new blocks behind it, and draws: what was there is as it was. -/
def Q (w w' : World) : Prop := Below w.heap.size w w'
theorem Q.refl (w : World) : Q w w := Below.refl _ _
theorem Q.trans {a b c : World} (h : Q a b) (k : Q b c) : Q a c := Below.trans h (Below.mono k h.size)
theorem Q.drew {a b : World} (h : Q a b) : Q a b.drew := Below.drew h
theorem Q.drewN {a b : World} (h : Q a b) (n : Nat) : Q a (b.drewN n) := ⟨h.os, h.tape, h.output, h.size, h.block⟩
theorem Q.alloc {a b : World} (h : Q a b) (o : Obj) : Q a (b.alloc o) := Below.alloc h h.size o
theorem Q.setNew {a b : World} (h : Q a b) {p : Addr} (hp : a.heap.size ≤ p.block) (v : Value) : Q a (b.setCell p v) := Below.setCell h hp v
theorem Q.below {a b c : World} (h : Q a b) (k : Below a.heap.size b c) : Q a c := Below.trans h k
theorem Q.size {a b : World} (h : Q a b) : a.heap.size ≤ b.heap.size := Below.size h
theorem lt_of_cell {w : World} {a : Addr} {v : Value} (h : w.cell? a = some v) : a.block < w.heap.size := by
  unfold World.cell? at h
  rcases Nat.lt_or_ge a.block w.heap.size with h1 | h1
  · exact h1
  · rw [Array.getElem?_eq_none h1] at h; cases h
theorem Q.cell {a b : World} (h : Q a b) {p : Addr} {v : Value} (hp : a.cell? p = some v) : b.cell? p = some v := (Below.cell h (lt_of_cell hp)).trans hp
theorem Q.block {a b : World} (h : Q a b) {k : Nat} {o : Obj} (hp : a.heap[k]? = some o) : b.heap[k]? = some o := by
  rcases Nat.lt_or_ge k a.heap.size with h1 | h1
  · exact (Below.block h k h1).trans hp
  · rw [Array.getElem?_eq_none h1] at hp; cases hp

structure QW (w : World) where
  val : World
  le : Q w val
instance (w : World) : Nonempty (QW w) := ⟨⟨w, Q.refl w⟩⟩
theorem QW.cell {w : World} (m : QW w) {p : Addr} {v : Value} (hp : w.cell? p = some v) : m.val.cell? p = some v := m.le.cell hp
@[go_sem, simp] theorem QW.same {w : World} {x v : Value} : (∀ m : QW w, m.val = m.val ∧ x = v) ↔ x = v := by
  constructor
  · intro h; exact (h ⟨w, Q.refl w⟩).2
  · intro h m; exact ⟨rfl, h⟩

/-- A region that draws its order: every operation hands back one value in every world that w grows to. -/
theorem wp_region_q {P : Program} {id : Nat} {R : Exit → Act → World → Prop} {a : Act} {w : World} {l : List Oper} (hm : P.follows .mixedOrders = true) (hB : Region.lexB .any l.toArray = true)
    (h : wpQuiet P l.toArray (fun w' => ∃ m : QW w, w' = m.val) (fun a' => ∀ w', (∃ m : QW w, w' = m.val) → R .normal a' w') l a) : (Code.region id l.toArray true).wp P R a w :=
  wp_region_quiet (C := fun w' => ∃ m : QW w, w' = m.val) hm hB ⟨⟨w.drew, (Q.refl w).drew⟩, rfl⟩ (by simpa using h)

/-- A contract met within such a region. -/
theorem calls_q {P : Program} {f : FuncId} {args : Array Value} {w : World} {m : QW w} {v : Value}
    (h : Calls P f args m.val fun e w' => e = .returned v ∧ Q m.val w') : Calls P f args m.val fun e w'' => e = .returned v ∧ ∃ k : QW w, w'' = k.val :=
  h.mono fun _ w' ⟨he, hq⟩ => ⟨he, ⟨w', m.le.trans hq⟩, rfl⟩
theorem calls_qs {P : Program} {f : FuncId} {args : Array Value} {w : World} {m : QW w} {v : Value}
    (h : Calls P f args m.val fun e w' => e = .returned v ∧ m.val = w') : Calls P f args m.val fun e w'' => e = .returned v ∧ ∃ k : QW w, w'' = k.val :=
  h.mono fun _ _ ⟨he, hq⟩ => ⟨he, m, hq.symm⟩

theorem ret_eq {a b : Value} (h : a = b) : Ending.returned a = Ending.returned b := by rw [h]
theorem ret_int {k : IntKind} {a b : Int} (h : a = b) : Ending.returned (.int k a) = .returned (.int k b) := by rw [h]

/-- A byte of a number. -/
def byteOf (n : Int) : UInt8 := UInt8.ofNat n.toNat
theorem byteOf_int (n : Int) (h0 : 0 ≤ n) (h1 : n < 256) : ((byteOf n).toNat : Int) = n := by
  unfold byteOf; simp; omega
theorem byteOf_toNat (u : UInt8) : byteOf (u.toNat : Int) = u := by unfold byteOf; simp

/-- string([]byte{..}) of a row that has just been laid. -/
theorem conv_bytes {P : Program} (w : World) (src dst e : TypeId) (cap : Nat) (ns : List Int) (hs : P.underlying src = some (.slice e)) (he : P.underlying e = some (.int .u8)) (hd : P.underlying dst = some .string)
    (hb : ∀ n ∈ ns, 0 ≤ n ∧ n < 256) :
    (convert src dst (.slice (some ⟨w.heap.size, 0, none⟩) ns.length cap)).run P (w.alloc (.cells (ns.map (Value.int .u8)).toArray e)) =
      .ok (.string ⟨(ns.map byteOf).toArray⟩) (w.alloc (.cells (ns.map (Value.int .u8)).toArray e)) := by
  have h := run_convert_bytes_back (P := P) (w.alloc (.cells (ns.map (Value.int .u8)).toArray e)) src dst e ⟨w.heap.size, 0, none⟩ cap (ns.map byteOf) hs he hd
  simp only [List.length_map] at h
  apply h
  intro i hi
  have e1 : (Addr.add ⟨w.heap.size, 0, none⟩ i) = ⟨w.heap.size, i, none⟩ := by unfold Addr.add; split <;> simp_all
  rw [e1]
  have e2 : (w.alloc (.cells (ns.map (Value.int .u8)).toArray e)).heap[w.heap.size]? = some (.cells (ns.map (Value.int .u8)).toArray e) := (MapKept.heap_alloc w _).1
  unfold World.cell?
  rw [e2]
  have h2 := hb ns[i] (List.getElem_mem hi)
  simp only [Option.isSome_none, Bool.false_eq_true, if_false, List.getElem?_toArray, List.getElem?_map, List.getElem_map, List.getElem?_eq_getElem hi, Option.map_some]
  rw [byteOf_int _ h2.1 h2.2]
theorem conv_bytes4 {P : Program} (w : World) (src dst e : TypeId) (cap : Nat) (a b c d : Int) (hs : P.underlying src = some (.slice e)) (he : P.underlying e = some (.int .u8)) (hd : P.underlying dst = some .string)
    (ha : 0 ≤ a ∧ a < 256) (hb : 0 ≤ b ∧ b < 256) (hc : 0 ≤ c ∧ c < 256) (hd' : 0 ≤ d ∧ d < 256) :
    (convert src dst (.slice (some ⟨w.heap.size, 0, none⟩) 4 cap)).run P (w.alloc (.cells #[.int .u8 a, .int .u8 b, .int .u8 c, .int .u8 d] e)) =
      .ok (.string ⟨#[byteOf a, byteOf b, byteOf c, byteOf d]⟩) (w.alloc (.cells #[.int .u8 a, .int .u8 b, .int .u8 c, .int .u8 d] e)) :=
  conv_bytes w src dst e cap [a, b, c, d] hs he hd (by intro n hn; simp at hn; rcases hn with rfl | rfl | rfl | rfl <;> assumption)

/-! Texts as lists of bytes: what the walk makes of their operations. -/
/-- The byte at a place. -/
def gB (l : List UInt8) (i : Nat) : UInt8 := l.getD i 0
/-- The bytes from i up to j. -/
def sub (l : List UInt8) (i j : Nat) : List UInt8 := (l.take j).drop i
@[go_sem] theorem length_sub (l : List UInt8) (i j : Nat) : (sub l i j).length = min j l.length - i := by
  simp [sub]
theorem gB_lt (l : List UInt8) (i : Nat) : ((gB l i).toNat : Int) < 256 := by have := (gB l i).toNat_lt; omega
theorem gB_nn (l : List UInt8) (i : Nat) : 0 ≤ ((gB l i).toNat : Int) := by omega

section
variable {P : Program} (w : World)
@[go_sem 2000] theorem run_index_list (t : TypeId) (l : List UInt8) (k : IntKind) (i : Int) (h : P.underlying t = some .string) :
    (Instr.index t (.string ⟨l.toArray⟩) (.int k i)).run P w =
      if 0 ≤ i ∧ i < l.length then .ok (.int .u8 ((gB l i.toNat).toNat : Int)) w else (boundsPanic k i l.length .index).run P w := by
  rw [run_index_string w t ⟨l.toArray⟩ k i h]
  have hs : (ByteArray.mk l.toArray).size = l.length := rfl
  by_cases hi : 0 ≤ i ∧ i < l.length
  · have hi' : 0 ≤ i ∧ i < ((ByteArray.mk l.toArray).size : Int) := hi
    rw [dif_pos hi', if_pos hi]
    have h2 : i.toNat < l.length := by omega
    have e : gB l i.toNat = l[i.toNat] := by unfold gB; simp [List.getD, h2]
    rw [e]; rfl
  · have hi' : ¬ (0 ≤ i ∧ i < ((ByteArray.mk l.toArray).size : Int)) := hi
    rw [dif_neg hi', if_neg hi]; rfl

theorem extract_list (l : List UInt8) (i j : Nat) : (ByteArray.mk l.toArray).extract i j = ⟨(sub l i j).toArray⟩ := by
  apply ByteArray.ext
  simp only [ByteArray.data_extract, sub]
  rw [← Array.toList_inj]
  simp
  first | rfl | rw [List.drop_take] | skip

theorem run_slice_list0 (t : TypeId) (l : List UInt8) (k k' : IntKind) (i j : Int) (h : P.underlying t = some .string)
    (h0 : 0 ≤ i) (h1 : i ≤ j) (h2 : j ≤ l.length) :
    (Instr.slice t (.string ⟨l.toArray⟩) (some (.int k i)) (some (.int k' j)) none).run P w = .ok (.string ⟨(sub l i.toNat j.toNat).toArray⟩) w := by
  rw [run_slice_string w t ⟨l.toArray⟩ k k' i j h h0 h1 h2, extract_list]
theorem run_slice_list_from0 (t : TypeId) (l : List UInt8) (k : IntKind) (i : Int) (h : P.underlying t = some .string)
    (h0 : 0 ≤ i) (h2 : i ≤ l.length) :
    (Instr.slice t (.string ⟨l.toArray⟩) (some (.int k i)) none none).run P w = .ok (.string ⟨(sub l i.toNat l.length).toArray⟩) w := by
  rw [run_slice_string_from_if w t ⟨l.toArray⟩ k i h]
  have hs : (ByteArray.mk l.toArray).size = l.length := rfl
  simp only [hs]
  rw [if_pos (by omega), extract_list]
theorem run_slice_list_to0 (t : TypeId) (l : List UInt8) (k : IntKind) (j : Int) (h : P.underlying t = some .string)
    (h0 : 0 ≤ j) (h2 : j ≤ l.length) :
    (Instr.slice t (.string ⟨l.toArray⟩) none (some (.int k j)) none).run P w = .ok (.string ⟨(sub l 0 j.toNat).toArray⟩) w := by
  rw [run_slice_string_to_if w t ⟨l.toArray⟩ k j h]
  have hs : (ByteArray.mk l.toArray).size = l.length := rfl
  simp only [hs]
  rw [if_pos (by omega), extract_list]
theorem run_add_list0 (a b : List UInt8) (h : (a.length : Int) + b.length ≤ 9223372036854775807) :
    (Op.stringOp .add ⟨a.toArray⟩ ⟨b.toArray⟩).run P w = .ok (.string ⟨(a ++ b).toArray⟩) w := by
  rw [run_string_add_sum w _ _ (by simp [ByteArray.size]; omega), ByteArray.mk_append_mk]

/-- What is run where the bounds do not hold (never opened). -/
def elseRun {α : Type} (P : Program) (s : Sem α) (w : World) : Result α := s.run P w
@[go_sem 2000] theorem run_slice_list (t : TypeId) (l : List UInt8) (k k' : IntKind) (i j : Int) (h : P.underlying t = some .string) :
    (Instr.slice t (.string ⟨l.toArray⟩) (some (.int k i)) (some (.int k' j)) none).run P w =
      if 0 ≤ i ∧ i ≤ j ∧ j ≤ l.length then .ok (.string ⟨(sub l i.toNat j.toNat).toArray⟩) w
      else elseRun P (Instr.slice t (.string ⟨l.toArray⟩) (some (.int k i)) (some (.int k' j)) none) w := by
  split
  · next hc => exact run_slice_list0 w t l k k' i j h hc.1 hc.2.1 hc.2.2
  · rfl
@[go_sem 2000] theorem run_slice_list_from (t : TypeId) (l : List UInt8) (k : IntKind) (i : Int) (h : P.underlying t = some .string) :
    (Instr.slice t (.string ⟨l.toArray⟩) (some (.int k i)) none none).run P w =
      if 0 ≤ i ∧ i ≤ l.length then .ok (.string ⟨(sub l i.toNat l.length).toArray⟩) w
      else elseRun P (Instr.slice t (.string ⟨l.toArray⟩) (some (.int k i)) none none) w := by
  split
  · next hc => exact run_slice_list_from0 w t l k i h hc.1 hc.2
  · rfl
@[go_sem 2000] theorem run_slice_list_to (t : TypeId) (l : List UInt8) (k : IntKind) (j : Int) (h : P.underlying t = some .string) :
    (Instr.slice t (.string ⟨l.toArray⟩) none (some (.int k j)) none).run P w =
      if 0 ≤ j ∧ j ≤ l.length then .ok (.string ⟨(sub l 0 j.toNat).toArray⟩) w
      else elseRun P (Instr.slice t (.string ⟨l.toArray⟩) none (some (.int k j)) none) w := by
  split
  · next hc => exact run_slice_list_to0 w t l k j h hc.1 hc.2
  · rfl
@[go_sem 2000] theorem run_add_list (a b : List UInt8) :
    (Op.stringOp .add ⟨a.toArray⟩ ⟨b.toArray⟩).run P w =
      if (a.length : Int) + b.length ≤ 9223372036854775807 then .ok (.string ⟨(a ++ b).toArray⟩) w else elseRun P (Op.stringOp .add ⟨a.toArray⟩ ⟨b.toArray⟩) w := by
  split
  · next hc => exact run_add_list0 w a b hc
  · rfl
end
end Go.Proofs.YtlhhiiemojhjdaaDoor
/- JSON, plain: what a text is read as: the value and what is left of the text, or the error and how much is left from its place on. -/
set_option linter.unusedVariables false
set_option linter.unusedSimpArgs false
namespace Go.Proofs.YtlhhiiemojhjdaaDoor
open Go Go.RowKit
inductive JsonD where
  | mk (kind : Int) (text : List UInt8) (names : List (List UInt8)) (kids : List JsonD)
instance : Inhabited JsonD := ⟨.mk 0 [] [] []⟩
def zeroJ : JsonD := .mk 0 [] [] []
/-- What a reader's piece gives. -/
inductive PR (α : Type) where
  | ok (v : α) (rest : List UInt8)
  | bad (e : Nat) (left : Nat)
def PR.bind {α β : Type} (a : PR α) (k : α → List UInt8 → PR β) : PR β :=
  match a with
  | .ok v r => k v r
  | .bad e n => .bad e n
def wsB (b : UInt8) : Bool := b == 32 || b == 9 || b == 10 || b == 13
def skipJ (l : List UInt8) : List UInt8 := l.dropWhile wsB
def tenJ (b : UInt8) : Bool := decide (48 ≤ b.toNat) && decide (b.toNat ≤ 57)
/-- The byte that stands ahead; 0: none. -/
def hdB (l : List UInt8) : UInt8 := l.headD 0
def takeR (b : UInt8) : List UInt8 → PR Unit
  | [] => .bad 54 0
  | c :: t => if c = b then .ok () t else .bad 54 (t.length + 1)
def wordR : List UInt8 → List UInt8 → PR Unit
  | [], l => .ok () l
  | b :: w, l => (takeR b l).bind fun _ t => wordR w t
def digR (l : List UInt8) : PR Unit := if tenJ (hdB l) then .ok () (l.dropWhile tenJ) else .bad 54 l.length
def minusR (l : List UInt8) : List UInt8 := if hdB l = 45 then l.tail else l
def intR (l : List UInt8) : PR Unit := if hdB l = 48 then .ok () l.tail else digR l
def fracR (l : List UInt8) : PR Unit := if hdB l = 46 then digR l.tail else .ok () l
def signR (l : List UInt8) : List UInt8 := if hdB l = 43 ∨ hdB l = 45 then l.tail else l
def expR (l : List UInt8) : PR Unit := if hdB l = 101 ∨ hdB l = 69 then digR (signR l.tail) else .ok () l
def numR (l : List UInt8) : PR Unit := (intR (minusR l)).bind fun _ l2 => (fracR l2).bind fun _ l3 => expR l3
def hexJ (b : UInt8) : Option Nat :=
  if 48 ≤ b.toNat ∧ b.toNat ≤ 57 then some (b.toNat - 48)
  else if 97 ≤ b.toNat ∧ b.toNat ≤ 102 then some (b.toNat - 87)
  else if 65 ≤ b.toNat ∧ b.toNat ≤ 70 then some (b.toNat - 55)
  else none
/-- So many sixteenths; f: how much is left from the escape on. -/
def fourR (f : Nat) : Nat → Nat → List UInt8 → PR Nat
  | 0, n, l => .ok n l
  | _ + 1, _, [] => .bad 54 0
  | k + 1, n, b :: t => match hexJ b with
    | none => .bad 54 f
    | some v => fourR f k (16 * n + v) t
/-- A byte that must be, of an escape. -/
def mustR (f : Nat) (b : UInt8) : List UInt8 → PR Unit
  | [] => .bad 54 0
  | c :: t => if c = b then .ok () t else .bad 54 f
def unitR (f : Nat) (l : List UInt8) : PR Nat := (mustR f 92 l).bind fun _ t => (mustR f 117 t).bind fun _ u => fourR f 4 0 u
def simpleE (b : UInt8) : Option UInt8 :=
  if b = 34 ∨ b = 92 ∨ b = 47 then some b
  else if b = 98 then some 8
  else if b = 102 then some 12
  else if b = 110 then some 10
  else if b = 114 then some 13
  else if b = 116 then some 9
  else none
def codeR (f : Nat) (c : Nat) (l : List UInt8) : PR (List UInt8) :=
  if 56320 ≤ c ∧ c ≤ 57343 then .bad 54 f
  else if 55296 ≤ c ∧ c ≤ 56319 then
    (unitR f l).bind fun d t => if 56320 ≤ d ∧ d ≤ 57343 then .ok (Lib.encodeRune ((65536 + 1024 * (c - 55296) + (d - 56320) : Nat) : Int)) t else .bad 54 f
  else .ok (Lib.encodeRune (c : Int)) l
/-- An escape, which begins here. -/
def escR (l : List UInt8) : PR (List UInt8) :=
  match l with
  | _ :: b :: t =>
    if b = 117 then (fourR l.length 4 0 t).bind fun c u => codeR l.length c u
    else match simpleE b with
      | none => .bad 54 l.length
      | some c => .ok [c] t
  | _ => .bad 54 0
/-- How many bytes the character has that stands ahead; 0: there is none. -/
def utfN (l : List UInt8) : Nat := if l = [] then 0 else if (Lib.decodeL l).1 = 65533 ∧ (Lib.decodeL l).2 = 1 then 0 else (Lib.decodeL l).2
/-- A text behind its first quote. -/
def txtR : Nat → List UInt8 → List UInt8 → PR (List UInt8)
  | 0, l, _ => .bad 54 l.length
  | _ + 1, [], _ => .bad 54 0
  | n + 1, b :: t, acc =>
    if b = 34 then .ok acc t
    else if b = 92 then (escR (b :: t)).bind fun c u => txtR n u (acc ++ c)
    else if b.toNat < 32 ∨ utfN (b :: t) = 0 then .bad 54 (t.length + 1)
    else txtR n ((b :: t).drop (utfN (b :: t))) (acc ++ (b :: t).take (utfN (b :: t)))
def textR (l : List UInt8) : PR (List UInt8) := (takeR 34 l).bind fun _ t => txtR (t.length + 1) t []
/-- What stands behind one, up to the closing bracket. -/
def itemsR {α : Type} (one : List UInt8 → PR α) (c : UInt8) : Nat → List UInt8 → List α → PR (List α)
  | 0, l, _ => .bad 54 l.length
  | n + 1, l, acc => (one l).bind fun v r => if hdB (skipJ r) = c then .ok (acc ++ [v]) (skipJ r).tail
      else (takeR 44 (skipJ r)).bind fun _ u => itemsR one c n (skipJ u) (acc ++ [v])
/-- What stands between two brackets; l: behind the first. -/
def rowR {α : Type} (one : List UInt8 → PR α) (c : UInt8) (l : List UInt8) : PR (List α) :=
  if hdB (skipJ l) = c then .ok [] (skipJ l).tail else itemsR one c (l.length + 1) (skipJ l) []
def pairR (one : List UInt8 → PR JsonD) (l : List UInt8) : PR (List UInt8 × JsonD) :=
  (textR l).bind fun name r => (takeR 58 (skipJ r)).bind fun _ u => (one (skipJ u)).bind fun v t => .ok (name, v) t
def constR (w : List UInt8) (k : Int) (l : List UInt8) : PR JsonD :=
  (wordR w l).bind fun _ t => .ok (.mk k [] [] []) t
/-- A value that is no list and no object. -/
def atomR (l : List UInt8) : PR JsonD :=
  if hdB l = 34 then (textR l).bind fun s t => .ok (.mk 5 s [] []) t
  else if hdB l = 110 then constR [110, 117, 108, 108] 1 l
  else if hdB l = 116 then constR [116, 114, 117, 101] 3 l
  else if hdB l = 102 then constR [102, 97, 108, 115, 101] 2 l
  else if hdB l = 45 ∨ tenJ (hdB l) = true then (numR l).bind fun _ t => .ok (.mk 4 (l.take (l.length - t.length)) [] []) t
  else .bad 54 l.length
/-- A value; d: so many lists and objects may be one in another. -/
def valR : Nat → List UInt8 → PR JsonD
  | 0, l => if hdB l = 91 ∨ hdB l = 123 then .bad 57 l.length else atomR l
  | d + 1, l =>
    if hdB l = 91 then (rowR (valR d) 93 l.tail).bind fun ks t => .ok (.mk 6 [] [] ks) t
    else if hdB l = 123 then (rowR (pairR (valR d)) 125 l.tail).bind fun ks t => .ok (.mk 7 [] (ks.map (·.1)) (ks.map (·.2))) t
    else atomR l
/-- A text's value, or the error and its place. -/
def parseJ (s : List UInt8) : Except (Nat × Nat) JsonD :=
  if 8000 < s.length then .error (56, 0)
  else match valR 20 (skipJ s) with
    | .bad e n => .error (e, s.length - n)
    | .ok v t => if skipJ t = [] then .ok v else .error (54, s.length - (skipJ t).length)
end Go.Proofs.YtlhhiiemojhjdaaDoor
/- JSON, plain: what is left is a part of the text; what stands behind a text changes nothing ahead. -/
set_option linter.unusedVariables false
set_option linter.unusedSimpArgs false
namespace Go.Proofs.YtlhhiiemojhjdaaDoor
open Go Go.RowKit
/-- What is left is a text's end; a place lies within it. -/
def PR.good {α : Type} (l : List UInt8) (a : PR α) : Prop := match a with
  | .ok _ r => r <:+ l
  | .bad _ n => n ≤ l.length
theorem good_bind {α β : Type} {l : List UInt8} {a : PR α} {k : α → List UInt8 → PR β} (h : a.good l) (hk : ∀ v r, a = .ok v r → (k v r).good r) : (a.bind k).good l := by
  cases a with
  | bad e n => exact h
  | ok v r =>
    have h1 : r <:+ l := h
    have h2 := hk v r rfl
    show (k v r).good l
    cases hkv : k v r with
    | bad e n => rw [hkv] at h2; exact Nat.le_trans h2 h1.length_le
    | ok v' r' => rw [hkv] at h2; exact List.IsSuffix.trans h2 h1
theorem skip_suf (l : List UInt8) : skipJ l <:+ l := List.dropWhile_suffix _
theorem skip_len (l : List UInt8) : (skipJ l).length ≤ l.length := (skip_suf l).length_le
theorem good_suf {α : Type} {l m : List UInt8} {a : PR α} (h : a.good l) (hs : l <:+ m) : a.good m := by
  cases a with
  | bad e n => exact Nat.le_trans h hs.length_le
  | ok v r => exact List.IsSuffix.trans h hs
theorem takeR_good (b : UInt8) (l : List UInt8) : (takeR b l).good l := by
  cases l with
  | nil => exact Nat.le_refl _
  | cons c t =>
    rw [takeR]
    split
    · exact List.suffix_cons c t
    · exact Nat.le_refl _
theorem wordR_good : ∀ (w l : List UInt8), (wordR w l).good l
  | [], l => List.suffix_refl l
  | b :: w, l => good_bind (takeR_good b l) fun _ t _ => wordR_good w t
theorem digR_good (l : List UInt8) : (digR l).good l := by
  unfold digR
  split
  · exact List.dropWhile_suffix _
  · exact Nat.le_refl _
theorem minus_suf (l : List UInt8) : minusR l <:+ l := by unfold minusR; split; exact List.tail_suffix l; exact List.suffix_refl l
theorem sign_suf (l : List UInt8) : signR l <:+ l := by unfold signR; split; exact List.tail_suffix l; exact List.suffix_refl l
theorem intR_good (l : List UInt8) : (intR l).good l := by unfold intR; split; exact List.tail_suffix l; exact digR_good l
theorem fracR_good (l : List UInt8) : (fracR l).good l := by unfold fracR; split; exact good_suf (digR_good _) (List.tail_suffix l); exact List.suffix_refl l
theorem expR_good (l : List UInt8) : (expR l).good l := by unfold expR; split; exact good_suf (digR_good _) (List.IsSuffix.trans (sign_suf _) (List.tail_suffix l)); exact List.suffix_refl l
theorem numR_good (l : List UInt8) : (numR l).good l :=
  good_bind (good_suf (intR_good _) (minus_suf l)) fun _ r _ => good_bind (fracR_good r) fun _ r' _ => expR_good r'
theorem fourR_good {m : List UInt8} {f : Nat} (hf : f ≤ m.length) : ∀ (k n : Nat) (l : List UInt8), l <:+ m → (fourR f k n l).good m
  | 0, n, l, h => h
  | k + 1, n, [], h => by simp [fourR, PR.good]
  | k + 1, n, b :: t, h => by
    unfold fourR
    split
    · exact hf
    · exact fourR_good hf k _ t (List.IsSuffix.trans (List.suffix_cons b t) h)
theorem mustR_good {m : List UInt8} {f : Nat} (hf : f ≤ m.length) (b : UInt8) (l : List UInt8) (h : l <:+ m) : (mustR f b l).good m := by
  cases l with
  | nil => simp [mustR, PR.good]
  | cons c t =>
    rw [mustR]
    split
    · exact List.IsSuffix.trans (List.suffix_cons c t) h
    · exact hf
theorem good_bind' {α β : Type} {m : List UInt8} {a : PR α} {k : α → List UInt8 → PR β} (h : a.good m) (hk : ∀ v r, a = .ok v r → r <:+ m → (k v r).good m) : (a.bind k).good m := by
  cases a with
  | bad e n => exact h
  | ok v r => exact hk v r rfl h
theorem unitR_good {m : List UInt8} {f : Nat} (hf : f ≤ m.length) (l : List UInt8) (h : l <:+ m) : (unitR f l).good m :=
  good_bind' (mustR_good hf _ l h) fun _ t _ ht => good_bind' (mustR_good hf _ t ht) fun _ u _ hu => fourR_good hf _ _ u hu
theorem codeR_good {m : List UInt8} {f : Nat} (hf : f ≤ m.length) (c : Nat) (l : List UInt8) (h : l <:+ m) : (codeR f c l).good m := by
  unfold codeR
  split
  · exact hf
  · split
    · refine good_bind' (unitR_good hf l h) fun d t _ ht => ?_
      split
      · exact ht
      · exact hf
    · exact h
theorem escR_good (l : List UInt8) : (escR l).good l := by
  match l with
  | [] => exact Nat.le_refl _
  | [a] => exact Nat.zero_le _
  | a :: b :: t =>
    rw [escR]
    have hs : t <:+ a :: b :: t := List.IsSuffix.trans (List.suffix_cons b t) (List.suffix_cons a _)
    split
    · exact good_bind' (fourR_good (Nat.le_refl _) _ _ t hs) fun c u _ hu => codeR_good (Nat.le_refl _) c u hu
    · split
      · exact Nat.le_refl _
      · exact hs
theorem txtR_good : ∀ (n : Nat) (l acc : List UInt8), (txtR n l acc).good l
  | 0, l, acc => Nat.le_refl _
  | n + 1, [], acc => Nat.le_refl _
  | n + 1, b :: t, acc => by
    unfold txtR
    split
    · exact List.suffix_cons b t
    · split
      · exact good_bind (escR_good _) fun c u _ => txtR_good n u _
      · split
        · exact Nat.le_refl _
        · exact good_suf (txtR_good n _ _) (List.drop_suffix _ _)
theorem textR_good (l : List UInt8) : (textR l).good l := good_bind (takeR_good _ l) fun _ t _ => txtR_good _ t _
theorem itemsR_good {α : Type} {one : List UInt8 → PR α} (h1 : ∀ l, (one l).good l) (c : UInt8) : ∀ (n : Nat) (l : List UInt8) (acc : List α), (itemsR one c n l acc).good l
  | 0, l, acc => Nat.le_refl _
  | n + 1, l, acc => by
    unfold itemsR
    refine good_bind (h1 l) fun v r _ => ?_
    split
    · exact List.IsSuffix.trans (List.tail_suffix _) (skip_suf r)
    · exact good_suf (good_bind (takeR_good _ _) fun _ u _ => good_suf (itemsR_good h1 c n _ _) (skip_suf u)) (skip_suf r)
theorem rowR_good {α : Type} {one : List UInt8 → PR α} (h1 : ∀ l, (one l).good l) (c : UInt8) (l : List UInt8) : (rowR one c l).good l := by
  unfold rowR
  split
  · exact List.IsSuffix.trans (List.tail_suffix _) (skip_suf l)
  · exact good_suf (itemsR_good h1 c _ _ _) (skip_suf l)
theorem pairR_good {one : List UInt8 → PR JsonD} (h1 : ∀ l, (one l).good l) (l : List UInt8) : (pairR one l).good l :=
  good_bind (textR_good l) fun _ r _ => good_suf (good_bind (takeR_good _ _) fun _ u _ => good_suf (good_bind (h1 _) fun _ t _ => List.suffix_refl t) (skip_suf u)) (skip_suf r)
theorem constR_good (w : List UInt8) (k : Int) (l : List UInt8) : (constR w k l).good l := good_bind (wordR_good w l) fun _ t _ => List.suffix_refl t
theorem atomR_good (l : List UInt8) : (atomR l).good l := by
  unfold atomR
  split
  · exact good_bind (textR_good l) fun _ t _ => List.suffix_refl t
  · split
    · exact constR_good _ _ l
    · split
      · exact constR_good _ _ l
      · split
        · exact constR_good _ _ l
        · split
          · exact good_bind (numR_good l) fun _ t _ => List.suffix_refl t
          · exact Nat.le_refl _
theorem valR_good : ∀ (d : Nat) (l : List UInt8), (valR d l).good l
  | 0, l => by
    unfold valR
    split
    · exact Nat.le_refl _
    · exact atomR_good l
  | d + 1, l => by
    unfold valR
    split
    · exact good_suf (good_bind (rowR_good (valR_good d) _ _) fun _ t _ => List.suffix_refl t) (List.tail_suffix l)
    · split
      · exact good_suf (good_bind (rowR_good (pairR_good (valR_good d)) _ _) fun _ t _ => List.suffix_refl t) (List.tail_suffix l)
      · exact atomR_good l
/-! A value takes at least one byte. -/
def PR.eats {α : Type} (l : List UInt8) (a : PR α) : Prop := ∀ v r, a = .ok v r → r.length < l.length
theorem eats_bind {α β : Type} {l : List UInt8} {a : PR α} {k : α → List UInt8 → PR β} (h : a.eats l) (hk : ∀ v r, (k v r).good r) : (a.bind k).eats l := by
  intro v r e
  cases a with
  | bad e' n => cases e
  | ok v' r' =>
    have h1 := h v' r' rfl
    have h2 := hk v' r'
    have e : k v' r' = .ok v r := e
    rw [e] at h2
    have := List.IsSuffix.length_le h2
    omega
theorem takeR_eats (b : UInt8) (l : List UInt8) : (takeR b l).eats l := by
  intro v r e
  cases l with
  | nil => cases e
  | cons c t =>
    rw [takeR] at e
    split at e
    · injection e with _ e; subst e; simp
    · cases e
theorem hd_ne {l : List UInt8} (h : hdB l ≠ 0) : ∃ t, l = hdB l :: t := by
  cases l with
  | nil => exact absurd rfl h
  | cons b t => exact ⟨t, rfl⟩
theorem tail_lt {l : List UInt8} (h : hdB l ≠ 0) : l.tail.length < l.length := by
  obtain ⟨t, e⟩ := hd_ne h
  rw [e]; simp
theorem ten_ne {b : UInt8} (h : tenJ b = true) : b ≠ 0 := by
  intro e; subst e; exact absurd h (by decide)
theorem digR_eats (l : List UInt8) : (digR l).eats l := by
  intro v r e
  unfold digR at e
  split at e
  · next h =>
    injection e with _ e
    obtain ⟨t, ht⟩ := hd_ne (ten_ne h)
    subst e
    obtain ⟨b, hb⟩ : ∃ b, hdB l = b := ⟨_, rfl⟩
    rw [hb] at h ht
    rw [ht, List.dropWhile_cons_of_pos h]
    have := (List.dropWhile_suffix (l := t) tenJ).length_le
    simp; omega
  · cases e
theorem intR_eats (l : List UInt8) : (intR l).eats l := by
  intro v r e
  unfold intR at e
  split at e
  · next h =>
    injection e with _ e
    subst e
    exact tail_lt (by rw [h]; decide)
  · exact digR_eats l v r e
theorem numR_eats (l : List UInt8) : (numR l).eats l := by
  unfold numR
  refine eats_bind ?_ (fun _ r => good_bind (fracR_good r) fun _ r' _ => expR_good r')
  intro v r e
  have h1 := intR_eats _ v r e
  have h2 := (minus_suf l).length_le
  omega
theorem textR_eats (l : List UInt8) : (textR l).eats l := eats_bind (takeR_eats _ l) fun _ t => txtR_good _ t _
theorem constR_eats (b : UInt8) (w : List UInt8) (k : Int) (l : List UInt8) : (constR (b :: w) k l).eats l := by
  unfold constR
  refine eats_bind ?_ (fun _ t => List.suffix_refl t)
  exact eats_bind (takeR_eats b l) fun _ t => wordR_good w t
theorem atomR_eats (l : List UInt8) : (atomR l).eats l := by
  unfold atomR
  split
  · exact eats_bind (textR_eats l) fun _ t => List.suffix_refl t
  · split
    · exact constR_eats _ _ _ l
    · split
      · exact constR_eats _ _ _ l
      · split
        · exact constR_eats _ _ _ l
        · split
          · exact eats_bind (numR_eats l) fun _ t => List.suffix_refl t
          · intro v r e; cases e
theorem valR_eats (d : Nat) (l : List UInt8) : (valR d l).eats l := by
  cases d with
  | zero =>
    unfold valR
    split
    · intro v r e; cases e
    · exact atomR_eats l
  | succ d =>
    unfold valR
    split
    · next h =>
      intro v r e
      have h1 := good_bind (rowR_good (valR_good d) 93 l.tail) (k := fun ks t => PR.ok (JsonD.mk 6 [] [] ks) t) fun _ t _ => List.suffix_refl t
      rw [e] at h1
      have h2 := List.IsSuffix.length_le h1
      have h3 := tail_lt (l := l) (by rw [h]; decide)
      omega
    · split
      · next h =>
        intro v r e
        have h1 := good_bind (rowR_good (pairR_good (valR_good d)) 125 l.tail) (k := fun ks t => PR.ok (JsonD.mk 7 [] (ks.map (·.1)) (ks.map (·.2))) t) fun _ t _ => List.suffix_refl t
        rw [e] at h1
        have h2 := List.IsSuffix.length_le h1
        have h3 := tail_lt (l := l) (by rw [h]; decide)
        omega
      · exact atomR_eats l
theorem pairR_eats {one : List UInt8 → PR JsonD} (h1 : ∀ l, (one l).good l) (l : List UInt8) : (pairR one l).eats l :=
  eats_bind (textR_eats l) fun _ r => good_suf (good_bind (takeR_good _ _) fun _ u _ => good_suf (good_bind (h1 _) fun _ t _ => List.suffix_refl t) (skip_suf u)) (skip_suf r)
end Go.Proofs.YtlhhiiemojhjdaaDoor
