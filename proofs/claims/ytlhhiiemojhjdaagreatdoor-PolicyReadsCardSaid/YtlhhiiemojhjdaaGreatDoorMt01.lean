/- Texts of this proof, laid into one: Base, KaA, KaB, KaC, KaD, KaE. -/
import Derived.Test.YtlhhiiemojhjdaaGreatDoorProg
import Derived.WalkKit
import Derived.Lib.Hide
import Derived.BigQuiet
import Derived.Laws.IdiomStrings
import Derived.Lib.ValidU
import Derived.Lib.RuneBytes
import Derived.Lib.DecodeN
import Derived.Lib.ValidLaws
namespace Go.Proofs.YtlhhiiemojhjdaaGreatDoor
open Go Go.RowKit
def Q (w w' : World) : Prop := Below w.heap.size w w'
theorem Q.refl (w : World) : Q w w := Below.refl _ _
theorem Q.trans {a b c : World} (h : Q a b) (k : Q b c) : Q a c := Below.trans h (Below.mono k h.size)
theorem Q.drew {a b : World} (h : Q a b) : Q a b.drew := Below.drew h
theorem Q.alloc {a b : World} (h : Q a b) (o : Obj) : Q a (b.alloc o) := Below.alloc h h.size o
theorem Q.setNew {a b : World} (h : Q a b) {p : Addr} (hp : a.heap.size ≤ p.block) (v : Value) : Q a (b.setCell p v) := Below.setCell h hp v
theorem Q.below {a b c : World} (h : Q a b) (k : Below a.heap.size b c) : Q a c := Below.trans h k
theorem Q.size {a b : World} (h : Q a b) : a.heap.size ≤ b.heap.size := Below.size h
theorem lt_of_cell {w : World} {a : Addr} {v : Value} (h : w.cell? a = some v) : a.block < w.heap.size := by
  unfold World.cell? at h
  rcases Nat.lt_or_ge a.block w.heap.size with h1 | h1
  · exact h1
  · rw [Array.getElem?_eq_none h1] at h; cases h
theorem Q.cell {a b : World} (h : Q a b) {p : Addr} {v : Value} (hp : a.cell? p = some v) : b.cell? p = some v := (Below.cell h (lt_of_cell hp)).trans hp
theorem Q.block {a b : World} (h : Q a b) {k : Nat} {o : Obj} (hp : a.heap[k]? = some o) : b.heap[k]? = some o := by
  rcases Nat.lt_or_ge k a.heap.size with h1 | h1
  · exact (Below.block h k h1).trans hp
  · rw [Array.getElem?_eq_none h1] at hp; cases hp
structure QW (w : World) where
  val : World
  le : Q w val
instance (w : World) : Nonempty (QW w) := ⟨⟨w, Q.refl w⟩⟩
theorem QW.cell {w : World} (m : QW w) {p : Addr} {v : Value} (hp : w.cell? p = some v) : m.val.cell? p = some v := m.le.cell hp
@[go_sem, simp] theorem QW.same {w : World} {x v : Value} : (∀ m : QW w, m.val = m.val ∧ x = v) ↔ x = v := by
  constructor
  · intro h; exact (h ⟨w, Q.refl w⟩).2
  · intro h m; exact ⟨rfl, h⟩
theorem wp_region_q {P : Program} {id : Nat} {R : Exit → Act → World → Prop} {a : Act} {w : World} {l : List Oper} (hm : P.follows .mixedOrders = true) (hB : Region.lexB .any l.toArray = true)
    (h : wpQuiet P l.toArray (fun w' => ∃ m : QW w, w' = m.val) (fun a' => ∀ w', (∃ m : QW w, w' = m.val) → R .normal a' w') l a) : (Code.region id l.toArray true).wp P R a w :=
  wp_region_quiet (C := fun w' => ∃ m : QW w, w' = m.val) hm hB ⟨⟨w.drew, (Q.refl w).drew⟩, rfl⟩ (by simpa using h)
theorem calls_q {P : Program} {f : FuncId} {args : Array Value} {w : World} {m : QW w} {v : Value}
    (h : Calls P f args m.val fun e w' => e = .returned v ∧ Q m.val w') : Calls P f args m.val fun e w'' => e = .returned v ∧ ∃ k : QW w, w'' = k.val :=
  h.mono fun _ w' ⟨he, hq⟩ => ⟨he, ⟨w', m.le.trans hq⟩, rfl⟩
theorem ret_int {k : IntKind} {a b : Int} (h : a = b) : Ending.returned (.int k a) = .returned (.int k b) := by rw [h]
def byteOf (n : Int) : UInt8 := UInt8.ofNat n.toNat
theorem byteOf_int (n : Int) (h0 : 0 ≤ n) (h1 : n < 256) : ((byteOf n).toNat : Int) = n := by
  unfold byteOf; simp; omega
theorem conv_bytes {P : Program} (w : World) (src dst e : TypeId) (cap : Nat) (ns : List Int) (hs : P.underlying src = some (.slice e)) (he : P.underlying e = some (.int .u8)) (hd : P.underlying dst = some .string)
    (hb : ∀ n ∈ ns, 0 ≤ n ∧ n < 256) :
    (convert src dst (.slice (some ⟨w.heap.size, 0, none⟩) ns.length cap)).run P (w.alloc (.cells (ns.map (Value.int .u8)).toArray e)) =
      .ok (.string ⟨(ns.map byteOf).toArray⟩) (w.alloc (.cells (ns.map (Value.int .u8)).toArray e)) := by
  have h := run_convert_bytes_back (P := P) (w.alloc (.cells (ns.map (Value.int .u8)).toArray e)) src dst e ⟨w.heap.size, 0, none⟩ cap (ns.map byteOf) hs he hd
  simp only [List.length_map] at h
  apply h
  intro i hi
  have e1 : (Addr.add ⟨w.heap.size, 0, none⟩ i) = ⟨w.heap.size, i, none⟩ := by unfold Addr.add; split <;> simp_all
  rw [e1]
  have e2 : (w.alloc (.cells (ns.map (Value.int .u8)).toArray e)).heap[w.heap.size]? = some (.cells (ns.map (Value.int .u8)).toArray e) := (MapKept.heap_alloc w _).1
  unfold World.cell?
  rw [e2]
  have h2 := hb ns[i] (List.getElem_mem hi)
  simp only [Option.isSome_none, Bool.false_eq_true, if_false, List.getElem?_toArray, List.getElem?_map, List.getElem_map, List.getElem?_eq_getElem hi, Option.map_some]
  rw [byteOf_int _ h2.1 h2.2]
def gB (l : List UInt8) (i : Nat) : UInt8 := l.getD i 0
def sub (l : List UInt8) (i j : Nat) : List UInt8 := (l.take j).drop i
@[go_sem] theorem length_sub (l : List UInt8) (i j : Nat) : (sub l i j).length = min j l.length - i := by
  simp [sub]
section
variable {P : Program} (w : World)
@[go_sem 2000] theorem run_index_list (t : TypeId) (l : List UInt8) (k : IntKind) (i : Int) (h : P.underlying t = some .string) :
    (Instr.index t (.string ⟨l.toArray⟩) (.int k i)).run P w =
      if 0 ≤ i ∧ i < l.length then .ok (.int .u8 ((gB l i.toNat).toNat : Int)) w else (boundsPanic k i l.length .index).run P w := by
  rw [run_index_string w t ⟨l.toArray⟩ k i h]
  have hs : (ByteArray.mk l.toArray).size = l.length := rfl
  by_cases hi : 0 ≤ i ∧ i < l.length
  · have hi' : 0 ≤ i ∧ i < ((ByteArray.mk l.toArray).size : Int) := hi
    rw [dif_pos hi', if_pos hi]
    have h2 : i.toNat < l.length := by omega
    have e : gB l i.toNat = l[i.toNat] := by unfold gB; simp [List.getD, h2]
    rw [e]; rfl
  · have hi' : ¬ (0 ≤ i ∧ i < ((ByteArray.mk l.toArray).size : Int)) := hi
    rw [dif_neg hi', if_neg hi]; rfl
theorem extract_list (l : List UInt8) (i j : Nat) : (ByteArray.mk l.toArray).extract i j = ⟨(sub l i j).toArray⟩ := by
  apply ByteArray.ext
  simp only [ByteArray.data_extract, sub]
  rw [← Array.toList_inj]
  simp
  first | rfl | rw [List.drop_take] | skip
theorem run_slice_list0 (t : TypeId) (l : List UInt8) (k k' : IntKind) (i j : Int) (h : P.underlying t = some .string)
    (h0 : 0 ≤ i) (h1 : i ≤ j) (h2 : j ≤ l.length) :
    (Instr.slice t (.string ⟨l.toArray⟩) (some (.int k i)) (some (.int k' j)) none).run P w = .ok (.string ⟨(sub l i.toNat j.toNat).toArray⟩) w := by
  rw [run_slice_string w t ⟨l.toArray⟩ k k' i j h h0 h1 h2, extract_list]
theorem run_slice_list_from0 (t : TypeId) (l : List UInt8) (k : IntKind) (i : Int) (h : P.underlying t = some .string)
    (h0 : 0 ≤ i) (h2 : i ≤ l.length) :
    (Instr.slice t (.string ⟨l.toArray⟩) (some (.int k i)) none none).run P w = .ok (.string ⟨(sub l i.toNat l.length).toArray⟩) w := by
  rw [run_slice_string_from_if w t ⟨l.toArray⟩ k i h]
  have hs : (ByteArray.mk l.toArray).size = l.length := rfl
  simp only [hs]
  rw [if_pos (by omega), extract_list]
theorem run_slice_list_to0 (t : TypeId) (l : List UInt8) (k : IntKind) (j : Int) (h : P.underlying t = some .string)
    (h0 : 0 ≤ j) (h2 : j ≤ l.length) :
    (Instr.slice t (.string ⟨l.toArray⟩) none (some (.int k j)) none).run P w = .ok (.string ⟨(sub l 0 j.toNat).toArray⟩) w := by
  rw [run_slice_string_to_if w t ⟨l.toArray⟩ k j h]
  have hs : (ByteArray.mk l.toArray).size = l.length := rfl
  simp only [hs]
  rw [if_pos (by omega), extract_list]
theorem run_add_list0 (a b : List UInt8) (h : (a.length : Int) + b.length ≤ 9223372036854775807) :
    (Op.stringOp .add ⟨a.toArray⟩ ⟨b.toArray⟩).run P w = .ok (.string ⟨(a ++ b).toArray⟩) w := by
  rw [run_string_add_sum w _ _ (by simp [ByteArray.size]; omega), ByteArray.mk_append_mk]
def elseRun {α : Type} (P : Program) (s : Sem α) (w : World) : Result α := s.run P w
@[go_sem 2000] theorem run_slice_list (t : TypeId) (l : List UInt8) (k k' : IntKind) (i j : Int) (h : P.underlying t = some .string) :
    (Instr.slice t (.string ⟨l.toArray⟩) (some (.int k i)) (some (.int k' j)) none).run P w =
      if 0 ≤ i ∧ i ≤ j ∧ j ≤ l.length then .ok (.string ⟨(sub l i.toNat j.toNat).toArray⟩) w
      else elseRun P (Instr.slice t (.string ⟨l.toArray⟩) (some (.int k i)) (some (.int k' j)) none) w := by
  split
  · next hc => exact run_slice_list0 w t l k k' i j h hc.1 hc.2.1 hc.2.2
  · rfl
@[go_sem 2000] theorem run_slice_list_from (t : TypeId) (l : List UInt8) (k : IntKind) (i : Int) (h : P.underlying t = some .string) :
    (Instr.slice t (.string ⟨l.toArray⟩) (some (.int k i)) none none).run P w =
      if 0 ≤ i ∧ i ≤ l.length then .ok (.string ⟨(sub l i.toNat l.length).toArray⟩) w
      else elseRun P (Instr.slice t (.string ⟨l.toArray⟩) (some (.int k i)) none none) w := by
  split
  · next hc => exact run_slice_list_from0 w t l k i h hc.1 hc.2
  · rfl
@[go_sem 2000] theorem run_slice_list_to (t : TypeId) (l : List UInt8) (k : IntKind) (j : Int) (h : P.underlying t = some .string) :
    (Instr.slice t (.string ⟨l.toArray⟩) none (some (.int k j)) none).run P w =
      if 0 ≤ j ∧ j ≤ l.length then .ok (.string ⟨(sub l 0 j.toNat).toArray⟩) w
      else elseRun P (Instr.slice t (.string ⟨l.toArray⟩) none (some (.int k j)) none) w := by
  split
  · next hc => exact run_slice_list_to0 w t l k j h hc.1 hc.2
  · rfl
@[go_sem 2000] theorem run_add_list (a b : List UInt8) :
    (Op.stringOp .add ⟨a.toArray⟩ ⟨b.toArray⟩).run P w =
      if (a.length : Int) + b.length ≤ 9223372036854775807 then .ok (.string ⟨(a ++ b).toArray⟩) w else elseRun P (Op.stringOp .add ⟨a.toArray⟩ ⟨b.toArray⟩) w := by
  split
  · next hc => exact run_add_list0 w a b hc
  · rfl
end
end Go.Proofs.YtlhhiiemojhjdaaGreatDoor
set_option linter.unusedVariables false
set_option linter.unusedSimpArgs false
namespace Go.Proofs.YtlhhiiemojhjdaaGreatDoor
open Go Go.RowKit
inductive JsonD where
  | mk (kind : Int) (text : List UInt8) (names : List (List UInt8)) (kids : List JsonD)
instance : Inhabited JsonD := ⟨.mk 0 [] [] []⟩
def zeroJ : JsonD := .mk 0 [] [] []
inductive PR (α : Type) where
  | ok (v : α) (rest : List UInt8)
  | bad (e : Nat) (left : Nat)
def PR.bind {α β : Type} (a : PR α) (k : α → List UInt8 → PR β) : PR β :=
  match a with
  | .ok v r => k v r
  | .bad e n => .bad e n
def wsB (b : UInt8) : Bool := b == 32 || b == 9 || b == 10 || b == 13
def skipJ (l : List UInt8) : List UInt8 := l.dropWhile wsB
def tenJ (b : UInt8) : Bool := decide (48 ≤ b.toNat) && decide (b.toNat ≤ 57)
def hdB (l : List UInt8) : UInt8 := l.headD 0
def takeR (b : UInt8) : List UInt8 → PR Unit
  | [] => .bad 54 0
  | c :: t => if c = b then .ok () t else .bad 54 (t.length + 1)
def wordR : List UInt8 → List UInt8 → PR Unit
  | [], l => .ok () l
  | b :: w, l => (takeR b l).bind fun _ t => wordR w t
def digR (l : List UInt8) : PR Unit := if tenJ (hdB l) then .ok () (l.dropWhile tenJ) else .bad 54 l.length
def minusR (l : List UInt8) : List UInt8 := if hdB l = 45 then l.tail else l
def intR (l : List UInt8) : PR Unit := if hdB l = 48 then .ok () l.tail else digR l
def fracR (l : List UInt8) : PR Unit := if hdB l = 46 then digR l.tail else .ok () l
def signR (l : List UInt8) : List UInt8 := if hdB l = 43 ∨ hdB l = 45 then l.tail else l
def expR (l : List UInt8) : PR Unit := if hdB l = 101 ∨ hdB l = 69 then digR (signR l.tail) else .ok () l
def numR (l : List UInt8) : PR Unit := (intR (minusR l)).bind fun _ l2 => (fracR l2).bind fun _ l3 => expR l3
def hexJ (b : UInt8) : Option Nat :=
  if 48 ≤ b.toNat ∧ b.toNat ≤ 57 then some (b.toNat - 48)
  else if 97 ≤ b.toNat ∧ b.toNat ≤ 102 then some (b.toNat - 87)
  else if 65 ≤ b.toNat ∧ b.toNat ≤ 70 then some (b.toNat - 55)
  else none
def fourR (f : Nat) : Nat → Nat → List UInt8 → PR Nat
  | 0, n, l => .ok n l
  | _ + 1, _, [] => .bad 54 0
  | k + 1, n, b :: t => match hexJ b with
    | none => .bad 54 f
    | some v => fourR f k (16 * n + v) t
def mustR (f : Nat) (b : UInt8) : List UInt8 → PR Unit
  | [] => .bad 54 0
  | c :: t => if c = b then .ok () t else .bad 54 f
def unitR (f : Nat) (l : List UInt8) : PR Nat := (mustR f 92 l).bind fun _ t => (mustR f 117 t).bind fun _ u => fourR f 4 0 u
def simpleE (b : UInt8) : Option UInt8 :=
  if b = 34 ∨ b = 92 ∨ b = 47 then some b
  else if b = 98 then some 8
  else if b = 102 then some 12
  else if b = 110 then some 10
  else if b = 114 then some 13
  else if b = 116 then some 9
  else none
def codeR (f : Nat) (c : Nat) (l : List UInt8) : PR (List UInt8) :=
  if 56320 ≤ c ∧ c ≤ 57343 then .bad 54 f
  else if 55296 ≤ c ∧ c ≤ 56319 then
    (unitR f l).bind fun d t => if 56320 ≤ d ∧ d ≤ 57343 then .ok (Lib.encodeRune ((65536 + 1024 * (c - 55296) + (d - 56320) : Nat) : Int)) t else .bad 54 f
  else .ok (Lib.encodeRune (c : Int)) l
def escR (l : List UInt8) : PR (List UInt8) :=
  match l with
  | _ :: b :: t =>
    if b = 117 then (fourR l.length 4 0 t).bind fun c u => codeR l.length c u
    else match simpleE b with
      | none => .bad 54 l.length
      | some c => .ok [c] t
  | _ => .bad 54 0
def utfN (l : List UInt8) : Nat := if l = [] then 0 else if (Lib.decodeL l).1 = 65533 ∧ (Lib.decodeL l).2 = 1 then 0 else (Lib.decodeL l).2
def txtR : Nat → List UInt8 → List UInt8 → PR (List UInt8)
  | 0, l, _ => .bad 54 l.length
  | _ + 1, [], _ => .bad 54 0
  | n + 1, b :: t, acc =>
    if b = 34 then .ok acc t
    else if b = 92 then (escR (b :: t)).bind fun c u => txtR n u (acc ++ c)
    else if b.toNat < 32 ∨ utfN (b :: t) = 0 then .bad 54 (t.length + 1)
    else txtR n ((b :: t).drop (utfN (b :: t))) (acc ++ (b :: t).take (utfN (b :: t)))
def textR (l : List UInt8) : PR (List UInt8) := (takeR 34 l).bind fun _ t => txtR (t.length + 1) t []
def itemsR {α : Type} (one : List UInt8 → PR α) (c : UInt8) : Nat → List UInt8 → List α → PR (List α)
  | 0, l, _ => .bad 54 l.length
  | n + 1, l, acc => (one l).bind fun v r => if hdB (skipJ r) = c then .ok (acc ++ [v]) (skipJ r).tail
      else (takeR 44 (skipJ r)).bind fun _ u => itemsR one c n (skipJ u) (acc ++ [v])
def rowR {α : Type} (one : List UInt8 → PR α) (c : UInt8) (l : List UInt8) : PR (List α) :=
  if hdB (skipJ l) = c then .ok [] (skipJ l).tail else itemsR one c (l.length + 1) (skipJ l) []
def pairR (one : List UInt8 → PR JsonD) (l : List UInt8) : PR (List UInt8 × JsonD) :=
  (textR l).bind fun name r => (takeR 58 (skipJ r)).bind fun _ u => (one (skipJ u)).bind fun v t => .ok (name, v) t
def constR (w : List UInt8) (k : Int) (l : List UInt8) : PR JsonD :=
  (wordR w l).bind fun _ t => .ok (.mk k [] [] []) t
def atomR (l : List UInt8) : PR JsonD :=
  if hdB l = 34 then (textR l).bind fun s t => .ok (.mk 5 s [] []) t
  else if hdB l = 110 then constR [110, 117, 108, 108] 1 l
  else if hdB l = 116 then constR [116, 114, 117, 101] 3 l
  else if hdB l = 102 then constR [102, 97, 108, 115, 101] 2 l
  else if hdB l = 45 ∨ tenJ (hdB l) = true then (numR l).bind fun _ t => .ok (.mk 4 (l.take (l.length - t.length)) [] []) t
  else .bad 54 l.length
def valR : Nat → List UInt8 → PR JsonD
  | 0, l => if hdB l = 91 ∨ hdB l = 123 then .bad 57 l.length else atomR l
  | d + 1, l =>
    if hdB l = 91 then (rowR (valR d) 93 l.tail).bind fun ks t => .ok (.mk 6 [] [] ks) t
    else if hdB l = 123 then (rowR (pairR (valR d)) 125 l.tail).bind fun ks t => .ok (.mk 7 [] (ks.map (·.1)) (ks.map (·.2))) t
    else atomR l
def parseJ (s : List UInt8) : Except (Nat × Nat) JsonD :=
  if 8000 < s.length then .error (56, 0)
  else match valR 20 (skipJ s) with
    | .bad e n => .error (e, s.length - n)
    | .ok v t => if skipJ t = [] then .ok v else .error (54, s.length - (skipJ t).length)
end Go.Proofs.YtlhhiiemojhjdaaGreatDoor
set_option linter.unusedVariables false
set_option linter.unusedSimpArgs false
namespace Go.Proofs.YtlhhiiemojhjdaaGreatDoor
open Go Go.RowKit
def PR.good {α : Type} (l : List UInt8) (a : PR α) : Prop := match a with
  | .ok _ r => r <:+ l
  | .bad _ n => n ≤ l.length
theorem good_bind {α β : Type} {l : List UInt8} {a : PR α} {k : α → List UInt8 → PR β} (h : a.good l) (hk : ∀ v r, a = .ok v r → (k v r).good r) : (a.bind k).good l := by
  cases a with
  | bad e n => exact h
  | ok v r =>
    have h1 : r <:+ l := h
    have h2 := hk v r rfl
    show (k v r).good l
    cases hkv : k v r with
    | bad e n => rw [hkv] at h2; exact Nat.le_trans h2 h1.length_le
    | ok v' r' => rw [hkv] at h2; exact List.IsSuffix.trans h2 h1
theorem skip_suf (l : List UInt8) : skipJ l <:+ l := List.dropWhile_suffix _
theorem skip_len (l : List UInt8) : (skipJ l).length ≤ l.length := (skip_suf l).length_le
theorem good_suf {α : Type} {l m : List UInt8} {a : PR α} (h : a.good l) (hs : l <:+ m) : a.good m := by
  cases a with
  | bad e n => exact Nat.le_trans h hs.length_le
  | ok v r => exact List.IsSuffix.trans h hs
theorem takeR_good (b : UInt8) (l : List UInt8) : (takeR b l).good l := by
  cases l with
  | nil => exact Nat.le_refl _
  | cons c t =>
    rw [takeR]
    split
    · exact List.suffix_cons c t
    · exact Nat.le_refl _
theorem wordR_good : ∀ (w l : List UInt8), (wordR w l).good l
  | [], l => List.suffix_refl l
  | b :: w, l => good_bind (takeR_good b l) fun _ t _ => wordR_good w t
theorem digR_good (l : List UInt8) : (digR l).good l := by
  unfold digR
  split
  · exact List.dropWhile_suffix _
  · exact Nat.le_refl _
theorem minus_suf (l : List UInt8) : minusR l <:+ l := by unfold minusR; split; exact List.tail_suffix l; exact List.suffix_refl l
theorem sign_suf (l : List UInt8) : signR l <:+ l := by unfold signR; split; exact List.tail_suffix l; exact List.suffix_refl l
theorem intR_good (l : List UInt8) : (intR l).good l := by unfold intR; split; exact List.tail_suffix l; exact digR_good l
theorem fracR_good (l : List UInt8) : (fracR l).good l := by unfold fracR; split; exact good_suf (digR_good _) (List.tail_suffix l); exact List.suffix_refl l
theorem expR_good (l : List UInt8) : (expR l).good l := by unfold expR; split; exact good_suf (digR_good _) (List.IsSuffix.trans (sign_suf _) (List.tail_suffix l)); exact List.suffix_refl l
theorem numR_good (l : List UInt8) : (numR l).good l :=
  good_bind (good_suf (intR_good _) (minus_suf l)) fun _ r _ => good_bind (fracR_good r) fun _ r' _ => expR_good r'
theorem fourR_good {m : List UInt8} {f : Nat} (hf : f ≤ m.length) : ∀ (k n : Nat) (l : List UInt8), l <:+ m → (fourR f k n l).good m
  | 0, n, l, h => h
  | k + 1, n, [], h => by simp [fourR, PR.good]
  | k + 1, n, b :: t, h => by
    unfold fourR
    split
    · exact hf
    · exact fourR_good hf k _ t (List.IsSuffix.trans (List.suffix_cons b t) h)
theorem mustR_good {m : List UInt8} {f : Nat} (hf : f ≤ m.length) (b : UInt8) (l : List UInt8) (h : l <:+ m) : (mustR f b l).good m := by
  cases l with
  | nil => simp [mustR, PR.good]
  | cons c t =>
    rw [mustR]
    split
    · exact List.IsSuffix.trans (List.suffix_cons c t) h
    · exact hf
theorem good_bind' {α β : Type} {m : List UInt8} {a : PR α} {k : α → List UInt8 → PR β} (h : a.good m) (hk : ∀ v r, a = .ok v r → r <:+ m → (k v r).good m) : (a.bind k).good m := by
  cases a with
  | bad e n => exact h
  | ok v r => exact hk v r rfl h
theorem unitR_good {m : List UInt8} {f : Nat} (hf : f ≤ m.length) (l : List UInt8) (h : l <:+ m) : (unitR f l).good m :=
  good_bind' (mustR_good hf _ l h) fun _ t _ ht => good_bind' (mustR_good hf _ t ht) fun _ u _ hu => fourR_good hf _ _ u hu
theorem codeR_good {m : List UInt8} {f : Nat} (hf : f ≤ m.length) (c : Nat) (l : List UInt8) (h : l <:+ m) : (codeR f c l).good m := by
  unfold codeR
  split
  · exact hf
  · split
    · refine good_bind' (unitR_good hf l h) fun d t _ ht => ?_
      split
      · exact ht
      · exact hf
    · exact h
theorem escR_good (l : List UInt8) : (escR l).good l := by
  match l with
  | [] => exact Nat.le_refl _
  | [a] => exact Nat.zero_le _
  | a :: b :: t =>
    rw [escR]
    have hs : t <:+ a :: b :: t := List.IsSuffix.trans (List.suffix_cons b t) (List.suffix_cons a _)
    split
    · exact good_bind' (fourR_good (Nat.le_refl _) _ _ t hs) fun c u _ hu => codeR_good (Nat.le_refl _) c u hu
    · split
      · exact Nat.le_refl _
      · exact hs
theorem txtR_good : ∀ (n : Nat) (l acc : List UInt8), (txtR n l acc).good l
  | 0, l, acc => Nat.le_refl _
  | n + 1, [], acc => Nat.le_refl _
  | n + 1, b :: t, acc => by
    unfold txtR
    split
    · exact List.suffix_cons b t
    · split
      · exact good_bind (escR_good _) fun c u _ => txtR_good n u _
      · split
        · exact Nat.le_refl _
        · exact good_suf (txtR_good n _ _) (List.drop_suffix _ _)
theorem textR_good (l : List UInt8) : (textR l).good l := good_bind (takeR_good _ l) fun _ t _ => txtR_good _ t _
theorem itemsR_good {α : Type} {one : List UInt8 → PR α} (h1 : ∀ l, (one l).good l) (c : UInt8) : ∀ (n : Nat) (l : List UInt8) (acc : List α), (itemsR one c n l acc).good l
  | 0, l, acc => Nat.le_refl _
  | n + 1, l, acc => by
    unfold itemsR
    refine good_bind (h1 l) fun v r _ => ?_
    split
    · exact List.IsSuffix.trans (List.tail_suffix _) (skip_suf r)
    · exact good_suf (good_bind (takeR_good _ _) fun _ u _ => good_suf (itemsR_good h1 c n _ _) (skip_suf u)) (skip_suf r)
theorem rowR_good {α : Type} {one : List UInt8 → PR α} (h1 : ∀ l, (one l).good l) (c : UInt8) (l : List UInt8) : (rowR one c l).good l := by
  unfold rowR
  split
  · exact List.IsSuffix.trans (List.tail_suffix _) (skip_suf l)
  · exact good_suf (itemsR_good h1 c _ _ _) (skip_suf l)
theorem pairR_good {one : List UInt8 → PR JsonD} (h1 : ∀ l, (one l).good l) (l : List UInt8) : (pairR one l).good l :=
  good_bind (textR_good l) fun _ r _ => good_suf (good_bind (takeR_good _ _) fun _ u _ => good_suf (good_bind (h1 _) fun _ t _ => List.suffix_refl t) (skip_suf u)) (skip_suf r)
theorem constR_good (w : List UInt8) (k : Int) (l : List UInt8) : (constR w k l).good l := good_bind (wordR_good w l) fun _ t _ => List.suffix_refl t
theorem atomR_good (l : List UInt8) : (atomR l).good l := by
  unfold atomR
  split
  · exact good_bind (textR_good l) fun _ t _ => List.suffix_refl t
  · split
    · exact constR_good _ _ l
    · split
      · exact constR_good _ _ l
      · split
        · exact constR_good _ _ l
        · split
          · exact good_bind (numR_good l) fun _ t _ => List.suffix_refl t
          · exact Nat.le_refl _
theorem valR_good : ∀ (d : Nat) (l : List UInt8), (valR d l).good l
  | 0, l => by
    unfold valR
    split
    · exact Nat.le_refl _
    · exact atomR_good l
  | d + 1, l => by
    unfold valR
    split
    · exact good_suf (good_bind (rowR_good (valR_good d) _ _) fun _ t _ => List.suffix_refl t) (List.tail_suffix l)
    · split
      · exact good_suf (good_bind (rowR_good (pairR_good (valR_good d)) _ _) fun _ t _ => List.suffix_refl t) (List.tail_suffix l)
      · exact atomR_good l
def PR.eats {α : Type} (l : List UInt8) (a : PR α) : Prop := ∀ v r, a = .ok v r → r.length < l.length
theorem eats_bind {α β : Type} {l : List UInt8} {a : PR α} {k : α → List UInt8 → PR β} (h : a.eats l) (hk : ∀ v r, (k v r).good r) : (a.bind k).eats l := by
  intro v r e
  cases a with
  | bad e' n => cases e
  | ok v' r' =>
    have h1 := h v' r' rfl
    have h2 := hk v' r'
    have e : k v' r' = .ok v r := e
    rw [e] at h2
    have := List.IsSuffix.length_le h2
    omega
theorem takeR_eats (b : UInt8) (l : List UInt8) : (takeR b l).eats l := by
  intro v r e
  cases l with
  | nil => cases e
  | cons c t =>
    rw [takeR] at e
    split at e
    · injection e with _ e; subst e; simp
    · cases e
theorem hd_ne {l : List UInt8} (h : hdB l ≠ 0) : ∃ t, l = hdB l :: t := by
  cases l with
  | nil => exact absurd rfl h
  | cons b t => exact ⟨t, rfl⟩
theorem tail_lt {l : List UInt8} (h : hdB l ≠ 0) : l.tail.length < l.length := by
  obtain ⟨t, e⟩ := hd_ne h
  rw [e]; simp
theorem ten_ne {b : UInt8} (h : tenJ b = true) : b ≠ 0 := by
  intro e; subst e; exact absurd h (by decide)
theorem digR_eats (l : List UInt8) : (digR l).eats l := by
  intro v r e
  unfold digR at e
  split at e
  · next h =>
    injection e with _ e
    obtain ⟨t, ht⟩ := hd_ne (ten_ne h)
    subst e
    obtain ⟨b, hb⟩ : ∃ b, hdB l = b := ⟨_, rfl⟩
    rw [hb] at h ht
    rw [ht, List.dropWhile_cons_of_pos h]
    have := (List.dropWhile_suffix (l := t) tenJ).length_le
    simp; omega
  · cases e
theorem intR_eats (l : List UInt8) : (intR l).eats l := by
  intro v r e
  unfold intR at e
  split at e
  · next h =>
    injection e with _ e
    subst e
    exact tail_lt (by rw [h]; decide)
  · exact digR_eats l v r e
theorem numR_eats (l : List UInt8) : (numR l).eats l := by
  unfold numR
  refine eats_bind ?_ (fun _ r => good_bind (fracR_good r) fun _ r' _ => expR_good r')
  intro v r e
  have h1 := intR_eats _ v r e
  have h2 := (minus_suf l).length_le
  omega
theorem textR_eats (l : List UInt8) : (textR l).eats l := eats_bind (takeR_eats _ l) fun _ t => txtR_good _ t _
theorem constR_eats (b : UInt8) (w : List UInt8) (k : Int) (l : List UInt8) : (constR (b :: w) k l).eats l := by
  unfold constR
  refine eats_bind ?_ (fun _ t => List.suffix_refl t)
  exact eats_bind (takeR_eats b l) fun _ t => wordR_good w t
theorem atomR_eats (l : List UInt8) : (atomR l).eats l := by
  unfold atomR
  split
  · exact eats_bind (textR_eats l) fun _ t => List.suffix_refl t
  · split
    · exact constR_eats _ _ _ l
    · split
      · exact constR_eats _ _ _ l
      · split
        · exact constR_eats _ _ _ l
        · split
          · exact eats_bind (numR_eats l) fun _ t => List.suffix_refl t
          · intro v r e; cases e
theorem valR_eats (d : Nat) (l : List UInt8) : (valR d l).eats l := by
  cases d with
  | zero =>
    unfold valR
    split
    · intro v r e; cases e
    · exact atomR_eats l
  | succ d =>
    unfold valR
    split
    · next h =>
      intro v r e
      have h1 := good_bind (rowR_good (valR_good d) 93 l.tail) (k := fun ks t => PR.ok (JsonD.mk 6 [] [] ks) t) fun _ t _ => List.suffix_refl t
      rw [e] at h1
      have h2 := List.IsSuffix.length_le h1
      have h3 := tail_lt (l := l) (by rw [h]; decide)
      omega
    · split
      · next h =>
        intro v r e
        have h1 := good_bind (rowR_good (pairR_good (valR_good d)) 125 l.tail) (k := fun ks t => PR.ok (JsonD.mk 7 [] (ks.map (·.1)) (ks.map (·.2))) t) fun _ t _ => List.suffix_refl t
        rw [e] at h1
        have h2 := List.IsSuffix.length_le h1
        have h3 := tail_lt (l := l) (by rw [h]; decide)
        omega
      · exact atomR_eats l
theorem pairR_eats {one : List UInt8 → PR JsonD} (h1 : ∀ l, (one l).good l) (l : List UInt8) : (pairR one l).eats l :=
  eats_bind (textR_eats l) fun _ r => good_suf (good_bind (takeR_good _ _) fun _ u _ => good_suf (good_bind (h1 _) fun _ t _ => List.suffix_refl t) (skip_suf u)) (skip_suf r)
end Go.Proofs.YtlhhiiemojhjdaaGreatDoor
set_option linter.unusedVariables false
set_option linter.unusedSimpArgs false
namespace Go.Proofs.YtlhhiiemojhjdaaGreatDoor
open Go Go.RowKit
def stopB (b : UInt8) : Bool := !(tenJ b) && b != 46 && b != 101 && b != 69
def stopX (x : List UInt8) : Prop := stopB (hdB x) = true
def wsAll (x : List UInt8) : Prop := ∀ b ∈ x, wsB b = true
theorem hd_app {l : List UInt8} (h : l ≠ []) (x : List UInt8) : hdB (l ++ x) = hdB l := by
  cases l with
  | nil => exact absurd rfl h
  | cons b t => rfl
theorem tail_app {l : List UInt8} (h : l ≠ []) (x : List UInt8) : (l ++ x).tail = l.tail ++ x := by
  cases l with
  | nil => exact absurd rfl h
  | cons b t => rfl
theorem drop_while_app (p : UInt8 → Bool) : ∀ (l x : List UInt8), (l ++ x).dropWhile p = if l.dropWhile p = [] then x.dropWhile p else l.dropWhile p ++ x
  | [], x => rfl
  | b :: t, x => by
    by_cases h : p b = true
    · rw [List.cons_append, List.dropWhile_cons_of_pos h, List.dropWhile_cons_of_pos h, drop_while_app p t x]
    · rw [List.cons_append, List.dropWhile_cons_of_neg h, List.dropWhile_cons_of_neg h, if_neg (by simp)]; rfl
def PR.ext {α : Type} (x : List UInt8) (a b : PR α) : Prop := match a with
  | .ok v r => (r ≠ [] ∨ stopX x) → b = .ok v (r ++ x)
  | .bad e n => (e = 57 → b = .bad 57 (n + x.length)) ∧ (wsAll x → ∃ m, b = .bad e m ∧ (n ≠ 0 → m = n + x.length))
theorem drop_ten {x : List UInt8} (h : tenJ (hdB x) = false) : x.dropWhile tenJ = x := by
  cases x with
  | nil => rfl
  | cons b t => exact List.dropWhile_cons_of_neg (by rw [show hdB (b :: t) = b from rfl] at h; rw [h]; decide)
theorem sign_app {l : List UInt8} (hl : l ≠ []) (x : List UInt8) : signR (l ++ x) = signR l ++ x := by
  unfold signR
  rw [hd_app hl, tail_app hl]
  split <;> rfl
theorem minus_app {l : List UInt8} (hl : l ≠ []) (x : List UInt8) : minusR (l ++ x) = minusR l ++ x := by
  unfold minusR
  rw [hd_app hl, tail_app hl]
  split <;> rfl
def uN (n b0 b1 b2 b3 : Nat) : Nat := if n = 0 then 0 else if (Lib.decodeN n b0 b1 b2 b3).1 = 65533 ∧ (Lib.decodeN n b0 b1 b2 b3).2 = 1 then 0 else (Lib.decodeN n b0 b1 b2 b3).2
theorem get_list (l : List UInt8) (i : Nat) : (ByteArray.mk l.toArray).get! i = gB l i := by
  unfold gB
  show l.toArray[i]! = _
  simp [List.getD, Array.getElem!_eq_getD]
  rfl
theorem utf_uN (l : List UInt8) : utfN l = uN l.length (gB l 0).toNat (gB l 1).toNat (gB l 2).toNat (gB l 3).toNat := by
  unfold utfN uN Lib.decodeL
  rw [Lib.decode_at, get_list, get_list, get_list, get_list]
  have hs : (ByteArray.mk l.toArray).size - 0 = l.length := rfl
  rw [hs]
  cases l with
  | nil => rfl
  | cons b t => simp
theorem dec_pre {n b0 b1 b2 b3 n' c1 c2 c3 k : Nat} (h : uN n b0 b1 b2 b3 = k) (hk : k ≠ 0) (hn : ∀ i, i < n → i < n') (e1 : 1 < n → c1 = b1) (e2 : 2 < n → c2 = b2) (e3 : 3 < n → c3 = b3) : uN n' b0 c1 c2 c3 = k ∧ k ≤ n ∧ k ≤ 4 := by
  unfold uN at h ⊢
  have h0 : n ≠ 0 := by intro e; rw [if_pos e] at h; exact hk h.symm
  have h0' : n' ≠ 0 := by have := hn 0 (by omega); omega
  rw [if_neg h0] at h
  rw [if_neg h0']
  unfold Lib.decodeN at h ⊢
  by_cases a : b0 < 128
  · simp only [a, if_true] at h ⊢
    have : ¬ (b0 = 65533 ∧ True) := by omega
    rw [if_neg (by simpa using this)] at h ⊢
    omega
  · simp only [a, if_false] at h ⊢
    by_cases g1 : 1 < n ∧ b1 / 64 = 2
    · have g1' : 1 < n' ∧ c1 / 64 = 2 := ⟨hn 1 g1.1, by rw [e1 g1.1]; exact g1.2⟩
      rw [e1 g1.1] at g1' ⊢
      by_cases a2 : b0 / 32 = 6
      · simp only [a2, g1, g1', and_self, if_true] at h ⊢
        refine ⟨h, ?_⟩
        have hg := g1.1
        revert h
        (repeat' split) <;> intro h <;> first | omega | (simp only at h; omega) | (simp_all; done)
      · simp only [a2, false_and, if_false] at h ⊢
        by_cases g2 : 2 < n ∧ b2 / 64 = 2
        · have g2' : 2 < n' ∧ c2 / 64 = 2 := ⟨hn 2 g2.1, by rw [e2 g2.1]; exact g2.2⟩
          rw [e2 g2.1] at g2' ⊢
          by_cases a3 : b0 / 16 = 14
          · simp only [a3, g1, g1', g2, g2', and_self, if_true] at h ⊢
            refine ⟨h, ?_⟩
            have hg := g2.1
            revert h
            (repeat' split) <;> intro h <;> first | omega | (simp only at h; omega) | (simp_all; done)
          · simp only [a3, false_and, if_false] at h ⊢
            by_cases g3 : 3 < n ∧ b3 / 64 = 2
            · have g3' : 3 < n' ∧ c3 / 64 = 2 := ⟨hn 3 g3.1, by rw [e3 g3.1]; exact g3.2⟩
              rw [e3 g3.1] at g3' ⊢
              by_cases a4 : b0 / 8 = 30
              · simp only [a4, g1, g1', g2, g2', g3, g3', and_self, if_true] at h ⊢
                refine ⟨h, ?_⟩
                have hg := g3.1
                revert h
                (repeat' split) <;> intro h <;> first | omega | (simp only at h; omega) | (simp_all; done)
              · simp [a4] at h; exact absurd h.symm hk
            · simp [g3] at h; exact absurd h.symm hk
        · simp [g2] at h; exact absurd h.symm hk
    · simp [g1] at h; exact absurd h.symm hk
theorem gB_app_lt {l x : List UInt8} {i : Nat} (h : i < l.length) : gB (l ++ x) i = gB l i := by
  unfold gB; simp [List.getD, List.getElem?_append_left h]
theorem utf_ext {l x : List UInt8} (h : utfN l ≠ 0) : utfN (l ++ x) = utfN l ∧ utfN l ≤ l.length ∧ utfN l ≤ 4 := by
  have h0 : 0 < l.length := by
    cases l with
    | nil => exact absurd rfl h
    | cons b t => simp
  have e := utf_uN l
  rw [utf_uN (l ++ x), gB_app_lt h0]
  exact dec_pre e.symm h (fun i hi => by rw [List.length_append]; omega) (fun h => by rw [gB_app_lt h]) (fun h => by rw [gB_app_lt h]) (fun h => by rw [gB_app_lt h])
theorem utf_ascii (b : UInt8) (t : List UInt8) (h : b.toNat < 128) : utfN (b :: t) = 1 := by
  rw [utf_uN]
  have e : gB (b :: t) 0 = b := rfl
  rw [e]
  unfold uN Lib.decodeN
  simp only [h, if_true]
  rw [if_neg (by simp), if_neg (by omega)]
end Go.Proofs.YtlhhiiemojhjdaaGreatDoor
set_option linter.unusedVariables false
set_option linter.unusedSimpArgs false
namespace Go.Proofs.YtlhhiiemojhjdaaGreatDoor
open Go Go.RowKit
def parseE (s : List UInt8) : Except (Nat × Nat) JsonD := match valR 20 (skipJ s) with
    | .bad e n => .error (e, s.length - n)
    | .ok v t => if skipJ t = [] then .ok v else .error (54, s.length - (skipJ t).length)
def Deep {α : Type} (a b : PR α) : Prop := ∀ v r, a = .ok v r → b = .ok v r ∨ ∃ n, b = .bad 57 n
end Go.Proofs.YtlhhiiemojhjdaaGreatDoor
set_option linter.unusedVariables false
set_option linter.unusedSimpArgs false
namespace Go.Proofs.YtlhhiiemojhjdaaGreatDoor
open Go Go.RowKit
def U2 (b0 b1 : Nat) : Prop := b0 / 32 = 6 ∧ b1 / 64 = 2 ∧ 128 ≤ b0 % 32 * 64 + b1 % 64
def U3 (b0 b1 b2 : Nat) : Prop := b0 / 16 = 14 ∧ b1 / 64 = 2 ∧ b2 / 64 = 2 ∧ 2048 ≤ b0 % 16 * 4096 + b1 % 64 * 64 + b2 % 64 ∧ (b0 % 16 * 4096 + b1 % 64 * 64 + b2 % 64 < 55296 ∨ 57344 ≤ b0 % 16 * 4096 + b1 % 64 * 64 + b2 % 64)
def U4 (b0 b1 b2 b3 : Nat) : Prop := b0 / 8 = 30 ∧ b1 / 64 = 2 ∧ b2 / 64 = 2 ∧ b3 / 64 = 2 ∧ 65536 ≤ b0 % 8 * 262144 + b1 % 64 * 4096 + b2 % 64 * 64 + b3 % 64 ∧ b0 % 8 * 262144 + b1 % 64 * 4096 + b2 % 64 * 64 + b3 % 64 ≤ 1114111
def UC (n b0 b1 b2 b3 k : Nat) : Prop := (k = 1 ∧ 0 < n ∧ b0 < 128) ∨ (k = 2 ∧ 1 < n ∧ U2 b0 b1) ∨ (k = 3 ∧ 2 < n ∧ U3 b0 b1 b2) ∨ (k = 4 ∧ 3 < n ∧ U4 b0 b1 b2 b3)
theorem uN_val {n b0 b1 b2 b3 : Nat} (h0 : n ≠ 0) {v w : Nat} (h : Lib.decodeN n b0 b1 b2 b3 = (v, w)) : uN n b0 b1 b2 b3 = if v = 65533 ∧ w = 1 then 0 else w := by
  unfold uN; rw [if_neg h0, h]
theorem uN_cases {n b0 b1 b2 b3 k : Nat} (h : uN n b0 b1 b2 b3 = k) (hk : k ≠ 0) : UC n b0 b1 b2 b3 k := by
  by_cases h0 : n = 0
  · unfold uN at h; rw [if_pos h0] at h; exact absurd h.symm hk
  have bad : Lib.decodeN n b0 b1 b2 b3 = (65533, 1) → UC n b0 b1 b2 b3 k := fun e => by
    rw [uN_val h0 e, if_pos ⟨rfl, rfl⟩] at h; exact absurd h.symm hk
  unfold Lib.decodeN at bad
  by_cases a : b0 < 128
  · have e : Lib.decodeN n b0 b1 b2 b3 = (b0, 1) := by unfold Lib.decodeN; rw [if_pos a]
    rw [uN_val h0 e, if_neg (by omega)] at h
    exact .inl ⟨h.symm, by omega, a⟩
  · rw [if_neg a] at bad
    by_cases a2 : b0 / 32 = 6 ∧ (1 < n ∧ b1 / 64 = 2)
    · rw [if_pos a2] at bad
      by_cases c : b0 % 32 * 64 + b1 % 64 ≥ 128
      · have e : Lib.decodeN n b0 b1 b2 b3 = (b0 % 32 * 64 + b1 % 64, 2) := by unfold Lib.decodeN; rw [if_neg a, if_pos a2, if_pos c]
        rw [uN_val h0 e, if_neg (by omega)] at h
        exact .inr (.inl ⟨h.symm, a2.2.1, a2.1, a2.2.2, c⟩)
      · rw [if_neg c] at bad; exact bad rfl
    · rw [if_neg a2] at bad
      by_cases a3 : b0 / 16 = 14 ∧ (1 < n ∧ b1 / 64 = 2) ∧ (2 < n ∧ b2 / 64 = 2)
      · rw [if_pos a3] at bad
        by_cases c : b0 % 16 * 4096 + b1 % 64 * 64 + b2 % 64 ≥ 2048 ∧ (b0 % 16 * 4096 + b1 % 64 * 64 + b2 % 64 < 55296 ∨ (57344 ≤ b0 % 16 * 4096 + b1 % 64 * 64 + b2 % 64 ∧ b0 % 16 * 4096 + b1 % 64 * 64 + b2 % 64 ≤ 1114111))
        · have e : Lib.decodeN n b0 b1 b2 b3 = (b0 % 16 * 4096 + b1 % 64 * 64 + b2 % 64, 3) := by unfold Lib.decodeN; rw [if_neg a, if_neg a2, if_pos a3, if_pos c]
          rw [uN_val h0 e, if_neg (by omega)] at h
          exact .inr (.inr (.inl ⟨h.symm, a3.2.2.1, a3.1, a3.2.1.2, a3.2.2.2, c.1, by omega⟩))
        · rw [if_neg c] at bad; exact bad rfl
      · rw [if_neg a3] at bad
        by_cases a4 : b0 / 8 = 30 ∧ (1 < n ∧ b1 / 64 = 2) ∧ (2 < n ∧ b2 / 64 = 2) ∧ (3 < n ∧ b3 / 64 = 2)
        · rw [if_pos a4] at bad
          by_cases c : b0 % 8 * 262144 + b1 % 64 * 4096 + b2 % 64 * 64 + b3 % 64 ≥ 65536 ∧ (b0 % 8 * 262144 + b1 % 64 * 4096 + b2 % 64 * 64 + b3 % 64 < 55296 ∨ (57344 ≤ b0 % 8 * 262144 + b1 % 64 * 4096 + b2 % 64 * 64 + b3 % 64 ∧ b0 % 8 * 262144 + b1 % 64 * 4096 + b2 % 64 * 64 + b3 % 64 ≤ 1114111))
          · have e : Lib.decodeN n b0 b1 b2 b3 = (b0 % 8 * 262144 + b1 % 64 * 4096 + b2 % 64 * 64 + b3 % 64, 4) := by unfold Lib.decodeN; rw [if_neg a, if_neg a2, if_neg a3, if_pos a4, if_pos c]
            rw [uN_val h0 e, if_neg (by omega)] at h
            exact .inr (.inr (.inr ⟨h.symm, a4.2.2.2.1, a4.1, a4.2.1.2, a4.2.2.1.2, a4.2.2.2.2, c.1, by omega⟩))
          · rw [if_neg c] at bad; exact bad rfl
        · rw [if_neg a4] at bad; exact bad rfl
theorem uN_of {n b0 b1 b2 b3 k : Nat} (h : UC n b0 b1 b2 b3 k) : uN n b0 b1 b2 b3 = k := by
  unfold UC U2 U3 U4 at h
  rcases h with h | h | h | h
  · have e : Lib.decodeN n b0 b1 b2 b3 = (b0, 1) := by unfold Lib.decodeN; rw [if_pos h.2.2]
    rw [uN_val (by omega) e, if_neg (by omega)]; exact h.1.symm
  · have e : Lib.decodeN n b0 b1 b2 b3 = (b0 % 32 * 64 + b1 % 64, 2) := by unfold Lib.decodeN; rw [if_neg (by omega), if_pos (by omega), if_pos (by omega)]
    rw [uN_val (by omega) e, if_neg (by omega)]; exact h.1.symm
  · have e : Lib.decodeN n b0 b1 b2 b3 = (b0 % 16 * 4096 + b1 % 64 * 64 + b2 % 64, 3) := by unfold Lib.decodeN; rw [if_neg (by omega), if_neg (by omega), if_pos (by omega), if_pos (by omega)]
    rw [uN_val (by omega) e, if_neg (by omega)]; exact h.1.symm
  · have e : Lib.decodeN n b0 b1 b2 b3 = (b0 % 8 * 262144 + b1 % 64 * 4096 + b2 % 64 * 64 + b3 % 64, 4) := by unfold Lib.decodeN; rw [if_neg (by omega), if_neg (by omega), if_neg (by omega), if_pos (by omega), if_pos (by omega)]
    rw [uN_val (by omega) e, if_neg (by omega)]; exact h.1.symm
theorem utf_cases {l : List UInt8} (h : utfN l ≠ 0) : UC l.length (gB l 0).toNat (gB l 1).toNat (gB l 2).toNat (gB l 3).toNat (utfN l) := uN_cases (utf_uN l).symm h
theorem utf_of {l : List UInt8} {k : Nat} (h : UC l.length (gB l 0).toNat (gB l 1).toNat (gB l 2).toNat (gB l 3).toNat k) : utfN l = k := by rw [utf_uN]; exact uN_of h
theorem gB_take {l : List UInt8} {k i : Nat} (h : i < k) : gB (l.take k) i = gB l i := by unfold gB; simp [List.getD, List.getElem?_take, h]
theorem utf_take {l : List UInt8} (h : utfN l ≠ 0) : utfN (l.take (utfN l)) = utfN l := by
  have hc := utf_cases h
  have hl := (utf_ext (x := []) h).2.1
  obtain ⟨k, hk⟩ : ∃ k, utfN l = k := ⟨_, rfl⟩
  rw [hk] at hc hl ⊢
  apply utf_of
  have hlen : (l.take k).length = k := by rw [List.length_take]; omega
  rw [hlen]
  unfold UC at hc ⊢
  rcases hc with ⟨h1, h2, h3⟩ | ⟨h1, h2, h3⟩ | ⟨h1, h2, h3⟩ | ⟨h1, h2, h3⟩ <;> subst h1
  · left; rw [gB_take (by omega)]; exact ⟨rfl, by omega, h3⟩
  · right; left; rw [gB_take (by omega), gB_take (by omega)]; exact ⟨rfl, by omega, h3⟩
  · right; right; left; rw [gB_take (by omega), gB_take (by omega), gB_take (by omega)]; exact ⟨rfl, by omega, h3⟩
  · right; right; right; rw [gB_take (by omega), gB_take (by omega), gB_take (by omega), gB_take (by omega)]; exact ⟨rfl, by omega, h3⟩
theorem valid_step {l : List UInt8} (hl : l ≠ []) : Lib.validD l = if utfN l = 0 then false else Lib.validD (l.drop (utfN l)) := by
  rw [Lib.validD_step l hl]
  unfold utfN
  rw [if_neg hl]
  by_cases h : (Lib.decodeL l).1 = 65533 ∧ (Lib.decodeL l).2 = 1
  · simp [h]
  · have hw := Lib.decodeL_width l
    rw [if_neg h, if_neg h, if_neg (by omega)]
theorem utf_ne {l : List UInt8} (h : utfN l ≠ 0) : l ≠ [] := fun e => h (by rw [e]; rfl)
theorem valid_char {l : List UInt8} (h : utfN l ≠ 0) : Lib.validD (l.take (utfN l)) = true := by
  have hl := (utf_ext (x := []) h).2.1
  have e := utf_take h
  have hne : l.take (utfN l) ≠ [] := utf_ne (by rw [e]; exact h)
  rw [valid_step hne, e, if_neg h, List.drop_of_length_le (by rw [List.length_take]; omega)]
  rfl
theorem valid_app : ∀ (n : Nat) (a b : List UInt8), a.length ≤ n → Lib.validD a = true → Lib.validD b = true → Lib.validD (a ++ b) = true
  | n, [], b, _, _, hb => hb
  | 0, c :: t, b, hn, _, _ => absurd hn (by simp)
  | n + 1, c :: t, b, hn, ha, hb => by
    have hne : c :: t ≠ [] := by simp
    rw [valid_step hne] at ha
    split at ha
    · cases ha
    · next h0 =>
      obtain ⟨h1, h2, h3⟩ := utf_ext (x := b) h0
      have hne2 : (c :: t) ++ b ≠ [] := by simp
      rw [valid_step hne2, h1, if_neg h0, List.drop_append_of_le_length h2]
      exact valid_app n _ b (by rw [List.length_drop]; simp only [List.length_cons] at hn ⊢; omega) ha hb
theorem valid_ascii {b : UInt8} (h : b.toNat < 128) : Lib.validD [b] = true := by
  rw [valid_step (by simp), utf_ascii b [] h]; rfl
def Scalar (c : Nat) : Prop := c < 55296 ∨ (57343 < c ∧ c ≤ 1114111)
theorem enc_utf {c : Nat} (h : Scalar c) : utfN (Lib.encodeRune (c : Int)) = (Lib.encodeRune (c : Int)).length ∧ utfN (Lib.encodeRune (c : Int)) ≠ 0 := by
  unfold Scalar at h
  have tn : ∀ x : Int, 0 ≤ x → x < 256 → (x.toNat.toUInt8).toNat = x.toNat := fun x h0 h1 => by
    have : x.toNat < 256 := by omega
    simp [Nat.toUInt8, UInt8.toNat_ofNat']; omega
  have key : ∀ (l : List UInt8) (k : Nat), l.length = k → UC l.length (gB l 0).toNat (gB l 1).toNat (gB l 2).toNat (gB l 3).toNat k → utfN l = l.length ∧ utfN l ≠ 0 := fun l k hk hu => by
    have := utf_of hu
    refine ⟨by omega, ?_⟩
    unfold UC at hu; omega
  by_cases h1 : c ≤ 127
  · have e : Lib.encodeRune (c : Int) = [((c : Int)).toNat.toUInt8] := by unfold Lib.encodeRune; rw [Lib.encodeRuneZ_one (by omega) (by omega)]; rfl
    rw [e]
    refine key _ 1 rfl (.inl ⟨rfl, by simp, ?_⟩)
    show (((c : Int)).toNat.toUInt8).toNat < 128
    rw [tn _ (by omega) (by omega)]; omega
  · by_cases h2 : c ≤ 2047
    · have e : Lib.encodeRune (c : Int) = [(192 + (c : Int) / 64).toNat.toUInt8, (128 + (c : Int) % 64).toNat.toUInt8] := by unfold Lib.encodeRune; rw [Lib.encodeRuneZ_two (by omega) (by omega)]; rfl
      rw [e]
      refine key _ 2 rfl (.inr (.inl ⟨rfl, by simp, ?_⟩))
      show U2 ((192 + (c : Int) / 64).toNat.toUInt8).toNat ((128 + (c : Int) % 64).toNat.toUInt8).toNat
      rw [tn _ (by omega) (by omega), tn _ (by omega) (by omega)]
      unfold U2; omega
    · by_cases h3 : c ≤ 65535
      · have e : Lib.encodeRune (c : Int) = [(224 + (c : Int) / 4096).toNat.toUInt8, (128 + (c : Int) / 64 % 64).toNat.toUInt8, (128 + (c : Int) % 64).toNat.toUInt8] := by unfold Lib.encodeRune; rw [Lib.encodeRuneZ_three (by omega)]; rfl
        rw [e]
        refine key _ 3 rfl (.inr (.inr (.inl ⟨rfl, by simp, ?_⟩)))
        show U3 ((224 + (c : Int) / 4096).toNat.toUInt8).toNat ((128 + (c : Int) / 64 % 64).toNat.toUInt8).toNat ((128 + (c : Int) % 64).toNat.toUInt8).toNat
        rw [tn _ (by omega) (by omega), tn _ (by omega) (by omega), tn _ (by omega) (by omega)]
        unfold U3; omega
      · have e : Lib.encodeRune (c : Int) = [(240 + (c : Int) / 262144).toNat.toUInt8, (128 + (c : Int) / 4096 % 64).toNat.toUInt8, (128 + (c : Int) / 64 % 64).toNat.toUInt8, (128 + (c : Int) % 64).toNat.toUInt8] := by unfold Lib.encodeRune; rw [Lib.encodeRuneZ_four (by omega) (by omega)]; rfl
        rw [e]
        refine key _ 4 rfl (.inr (.inr (.inr ⟨rfl, by simp, ?_⟩)))
        show U4 ((240 + (c : Int) / 262144).toNat.toUInt8).toNat ((128 + (c : Int) / 4096 % 64).toNat.toUInt8).toNat ((128 + (c : Int) / 64 % 64).toNat.toUInt8).toNat ((128 + (c : Int) % 64).toNat.toUInt8).toNat
        rw [tn _ (by omega) (by omega), tn _ (by omega) (by omega), tn _ (by omega) (by omega), tn _ (by omega) (by omega)]
        unfold U4; omega
theorem valid_enc {c : Nat} (h : Scalar c) : Lib.validD (Lib.encodeRune (c : Int)) = true := by
  obtain ⟨h1, h2⟩ := enc_utf h
  have := valid_char h2
  rw [h1, List.take_length] at this
  exact this
end Go.Proofs.YtlhhiiemojhjdaaGreatDoor
