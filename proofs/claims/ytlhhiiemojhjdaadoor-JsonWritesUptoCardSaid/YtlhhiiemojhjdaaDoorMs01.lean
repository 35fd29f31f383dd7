/- Texts of this proof, laid into one: Base, KaA, KaB, KaC, KaD, KaE, KaF, KaG, KaH, KaI, Strs, Gx. -/
import Derived.Test.YtlhhiiemojhjdaaDoorProg
import Derived.WalkKit
import Derived.Lib.Hide
import Derived.BigQuiet
import Derived.Laws.IdiomStrings
import Derived.Lib.ValidU
import Derived.Lib.RuneBytes
import Derived.Lib.DecodeN
import Derived.Lib.ValidLaws
import Derived.Test.YtlhhiiemojhjdaaDoorShelf
import Derived.Laws.Rows
namespace Go.Proofs.YtlhhiiemojhjdaaDoor
open Go Go.RowKit
def Q (w w' : World) : Prop := Below w.heap.size w w'
theorem Q.refl (w : World) : Q w w := Below.refl _ _
theorem Q.trans {a b c : World} (h : Q a b) (k : Q b c) : Q a c := Below.trans h (Below.mono k h.size)
theorem Q.drew {a b : World} (h : Q a b) : Q a b.drew := Below.drew h
theorem Q.alloc {a b : World} (h : Q a b) (o : Obj) : Q a (b.alloc o) := Below.alloc h h.size o
theorem Q.setNew {a b : World} (h : Q a b) {p : Addr} (hp : a.heap.size ≤ p.block) (v : Value) : Q a (b.setCell p v) := Below.setCell h hp v
theorem Q.below {a b c : World} (h : Q a b) (k : Below a.heap.size b c) : Q a c := Below.trans h k
theorem Q.size {a b : World} (h : Q a b) : a.heap.size ≤ b.heap.size := Below.size h
theorem lt_of_cell {w : World} {a : Addr} {v : Value} (h : w.cell? a = some v) : a.block < w.heap.size := by
  unfold World.cell? at h
  rcases Nat.lt_or_ge a.block w.heap.size with h1 | h1
  · exact h1
  · rw [Array.getElem?_eq_none h1] at h; cases h
theorem Q.cell {a b : World} (h : Q a b) {p : Addr} {v : Value} (hp : a.cell? p = some v) : b.cell? p = some v := (Below.cell h (lt_of_cell hp)).trans hp
theorem Q.block {a b : World} (h : Q a b) {k : Nat} {o : Obj} (hp : a.heap[k]? = some o) : b.heap[k]? = some o := by
  rcases Nat.lt_or_ge k a.heap.size with h1 | h1
  · exact (Below.block h k h1).trans hp
  · rw [Array.getElem?_eq_none h1] at hp; cases hp
structure QW (w : World) where
  val : World
  le : Q w val
instance (w : World) : Nonempty (QW w) := ⟨⟨w, Q.refl w⟩⟩
theorem QW.cell {w : World} (m : QW w) {p : Addr} {v : Value} (hp : w.cell? p = some v) : m.val.cell? p = some v := m.le.cell hp
@[go_sem, simp] theorem QW.same {w : World} {x v : Value} : (∀ m : QW w, m.val = m.val ∧ x = v) ↔ x = v := by
  constructor
  · intro h; exact (h ⟨w, Q.refl w⟩).2
  · intro h m; exact ⟨rfl, h⟩
theorem wp_region_q {P : Program} {id : Nat} {R : Exit → Act → World → Prop} {a : Act} {w : World} {l : List Oper} (hm : P.follows .mixedOrders = true) (hB : Region.lexB .any l.toArray = true)
    (h : wpQuiet P l.toArray (fun w' => ∃ m : QW w, w' = m.val) (fun a' => ∀ w', (∃ m : QW w, w' = m.val) → R .normal a' w') l a) : (Code.region id l.toArray true).wp P R a w :=
  wp_region_quiet (C := fun w' => ∃ m : QW w, w' = m.val) hm hB ⟨⟨w.drew, (Q.refl w).drew⟩, rfl⟩ (by simpa using h)
theorem calls_q {P : Program} {f : FuncId} {args : Array Value} {w : World} {m : QW w} {v : Value}
    (h : Calls P f args m.val fun e w' => e = .returned v ∧ Q m.val w') : Calls P f args m.val fun e w'' => e = .returned v ∧ ∃ k : QW w, w'' = k.val :=
  h.mono fun _ w' ⟨he, hq⟩ => ⟨he, ⟨w', m.le.trans hq⟩, rfl⟩
theorem ret_int {k : IntKind} {a b : Int} (h : a = b) : Ending.returned (.int k a) = .returned (.int k b) := by rw [h]
def gB (l : List UInt8) (i : Nat) : UInt8 := l.getD i 0
def sub (l : List UInt8) (i j : Nat) : List UInt8 := (l.take j).drop i
@[go_sem] theorem length_sub (l : List UInt8) (i j : Nat) : (sub l i j).length = min j l.length - i := by
  simp [sub]
section
variable {P : Program} (w : World)
@[go_sem 2000] theorem run_index_list (t : TypeId) (l : List UInt8) (k : IntKind) (i : Int) (h : P.underlying t = some .string) :
    (Instr.index t (.string ⟨l.toArray⟩) (.int k i)).run P w =
      if 0 ≤ i ∧ i < l.length then .ok (.int .u8 ((gB l i.toNat).toNat : Int)) w else (boundsPanic k i l.length .index).run P w := by
  rw [run_index_string w t ⟨l.toArray⟩ k i h]
  have hs : (ByteArray.mk l.toArray).size = l.length := rfl
  by_cases hi : 0 ≤ i ∧ i < l.length
  · have hi' : 0 ≤ i ∧ i < ((ByteArray.mk l.toArray).size : Int) := hi
    rw [dif_pos hi', if_pos hi]
    have h2 : i.toNat < l.length := by omega
    have e : gB l i.toNat = l[i.toNat] := by unfold gB; simp [List.getD, h2]
    rw [e]; rfl
  · have hi' : ¬ (0 ≤ i ∧ i < ((ByteArray.mk l.toArray).size : Int)) := hi
    rw [dif_neg hi', if_neg hi]; rfl
theorem extract_list (l : List UInt8) (i j : Nat) : (ByteArray.mk l.toArray).extract i j = ⟨(sub l i j).toArray⟩ := by
  apply ByteArray.ext
  simp only [ByteArray.data_extract, sub]
  rw [← Array.toList_inj]
  simp
  first | rfl | rw [List.drop_take] | skip
theorem run_slice_list0 (t : TypeId) (l : List UInt8) (k k' : IntKind) (i j : Int) (h : P.underlying t = some .string)
    (h0 : 0 ≤ i) (h1 : i ≤ j) (h2 : j ≤ l.length) :
    (Instr.slice t (.string ⟨l.toArray⟩) (some (.int k i)) (some (.int k' j)) none).run P w = .ok (.string ⟨(sub l i.toNat j.toNat).toArray⟩) w := by
  rw [run_slice_string w t ⟨l.toArray⟩ k k' i j h h0 h1 h2, extract_list]
theorem run_slice_list_from0 (t : TypeId) (l : List UInt8) (k : IntKind) (i : Int) (h : P.underlying t = some .string)
    (h0 : 0 ≤ i) (h2 : i ≤ l.length) :
    (Instr.slice t (.string ⟨l.toArray⟩) (some (.int k i)) none none).run P w = .ok (.string ⟨(sub l i.toNat l.length).toArray⟩) w := by
  rw [run_slice_string_from_if w t ⟨l.toArray⟩ k i h]
  have hs : (ByteArray.mk l.toArray).size = l.length := rfl
  simp only [hs]
  rw [if_pos (by omega), extract_list]
theorem run_slice_list_to0 (t : TypeId) (l : List UInt8) (k : IntKind) (j : Int) (h : P.underlying t = some .string)
    (h0 : 0 ≤ j) (h2 : j ≤ l.length) :
    (Instr.slice t (.string ⟨l.toArray⟩) none (some (.int k j)) none).run P w = .ok (.string ⟨(sub l 0 j.toNat).toArray⟩) w := by
  rw [run_slice_string_to_if w t ⟨l.toArray⟩ k j h]
  have hs : (ByteArray.mk l.toArray).size = l.length := rfl
  simp only [hs]
  rw [if_pos (by omega), extract_list]
theorem run_add_list0 (a b : List UInt8) (h : (a.length : Int) + b.length ≤ 9223372036854775807) :
    (Op.stringOp .add ⟨a.toArray⟩ ⟨b.toArray⟩).run P w = .ok (.string ⟨(a ++ b).toArray⟩) w := by
  rw [run_string_add_sum w _ _ (by simp [ByteArray.size]; omega), ByteArray.mk_append_mk]
def elseRun {α : Type} (P : Program) (s : Sem α) (w : World) : Result α := s.run P w
@[go_sem 2000] theorem run_slice_list (t : TypeId) (l : List UInt8) (k k' : IntKind) (i j : Int) (h : P.underlying t = some .string) :
    (Instr.slice t (.string ⟨l.toArray⟩) (some (.int k i)) (some (.int k' j)) none).run P w =
      if 0 ≤ i ∧ i ≤ j ∧ j ≤ l.length then .ok (.string ⟨(sub l i.toNat j.toNat).toArray⟩) w
      else elseRun P (Instr.slice t (.string ⟨l.toArray⟩) (some (.int k i)) (some (.int k' j)) none) w := by
  split
  · next hc => exact run_slice_list0 w t l k k' i j h hc.1 hc.2.1 hc.2.2
  · rfl
@[go_sem 2000] theorem run_slice_list_from (t : TypeId) (l : List UInt8) (k : IntKind) (i : Int) (h : P.underlying t = some .string) :
    (Instr.slice t (.string ⟨l.toArray⟩) (some (.int k i)) none none).run P w =
      if 0 ≤ i ∧ i ≤ l.length then .ok (.string ⟨(sub l i.toNat l.length).toArray⟩) w
      else elseRun P (Instr.slice t (.string ⟨l.toArray⟩) (some (.int k i)) none none) w := by
  split
  · next hc => exact run_slice_list_from0 w t l k i h hc.1 hc.2
  · rfl
@[go_sem 2000] theorem run_slice_list_to (t : TypeId) (l : List UInt8) (k : IntKind) (j : Int) (h : P.underlying t = some .string) :
    (Instr.slice t (.string ⟨l.toArray⟩) none (some (.int k j)) none).run P w =
      if 0 ≤ j ∧ j ≤ l.length then .ok (.string ⟨(sub l 0 j.toNat).toArray⟩) w
      else elseRun P (Instr.slice t (.string ⟨l.toArray⟩) none (some (.int k j)) none) w := by
  split
  · next hc => exact run_slice_list_to0 w t l k j h hc.1 hc.2
  · rfl
@[go_sem 2000] theorem run_add_list (a b : List UInt8) :
    (Op.stringOp .add ⟨a.toArray⟩ ⟨b.toArray⟩).run P w =
      if (a.length : Int) + b.length ≤ 9223372036854775807 then .ok (.string ⟨(a ++ b).toArray⟩) w else elseRun P (Op.stringOp .add ⟨a.toArray⟩ ⟨b.toArray⟩) w := by
  split
  · next hc => exact run_add_list0 w a b hc
  · rfl
end
end Go.Proofs.YtlhhiiemojhjdaaDoor
set_option linter.unusedVariables false
set_option linter.unusedSimpArgs false
namespace Go.Proofs.YtlhhiiemojhjdaaDoor
open Go Go.RowKit
inductive JsonD where
  | mk (kind : Int) (text : List UInt8) (names : List (List UInt8)) (kids : List JsonD)
instance : Inhabited JsonD := ⟨.mk 0 [] [] []⟩
def zeroJ : JsonD := .mk 0 [] [] []
inductive PR (α : Type) where
  | ok (v : α) (rest : List UInt8)
  | bad (e : Nat) (left : Nat)
def PR.bind {α β : Type} (a : PR α) (k : α → List UInt8 → PR β) : PR β :=
  match a with
  | .ok v r => k v r
  | .bad e n => .bad e n
def wsB (b : UInt8) : Bool := b == 32 || b == 9 || b == 10 || b == 13
def skipJ (l : List UInt8) : List UInt8 := l.dropWhile wsB
def tenJ (b : UInt8) : Bool := decide (48 ≤ b.toNat) && decide (b.toNat ≤ 57)
def hdB (l : List UInt8) : UInt8 := l.headD 0
def takeR (b : UInt8) : List UInt8 → PR Unit
  | [] => .bad 54 0
  | c :: t => if c = b then .ok () t else .bad 54 (t.length + 1)
def wordR : List UInt8 → List UInt8 → PR Unit
  | [], l => .ok () l
  | b :: w, l => (takeR b l).bind fun _ t => wordR w t
def digR (l : List UInt8) : PR Unit := if tenJ (hdB l) then .ok () (l.dropWhile tenJ) else .bad 54 l.length
def minusR (l : List UInt8) : List UInt8 := if hdB l = 45 then l.tail else l
def intR (l : List UInt8) : PR Unit := if hdB l = 48 then .ok () l.tail else digR l
def fracR (l : List UInt8) : PR Unit := if hdB l = 46 then digR l.tail else .ok () l
def signR (l : List UInt8) : List UInt8 := if hdB l = 43 ∨ hdB l = 45 then l.tail else l
def expR (l : List UInt8) : PR Unit := if hdB l = 101 ∨ hdB l = 69 then digR (signR l.tail) else .ok () l
def numR (l : List UInt8) : PR Unit := (intR (minusR l)).bind fun _ l2 => (fracR l2).bind fun _ l3 => expR l3
def hexJ (b : UInt8) : Option Nat :=
  if 48 ≤ b.toNat ∧ b.toNat ≤ 57 then some (b.toNat - 48)
  else if 97 ≤ b.toNat ∧ b.toNat ≤ 102 then some (b.toNat - 87)
  else if 65 ≤ b.toNat ∧ b.toNat ≤ 70 then some (b.toNat - 55)
  else none
def fourR (f : Nat) : Nat → Nat → List UInt8 → PR Nat
  | 0, n, l => .ok n l
  | _ + 1, _, [] => .bad 54 0
  | k + 1, n, b :: t => match hexJ b with
    | none => .bad 54 f
    | some v => fourR f k (16 * n + v) t
def mustR (f : Nat) (b : UInt8) : List UInt8 → PR Unit
  | [] => .bad 54 0
  | c :: t => if c = b then .ok () t else .bad 54 f
def unitR (f : Nat) (l : List UInt8) : PR Nat := (mustR f 92 l).bind fun _ t => (mustR f 117 t).bind fun _ u => fourR f 4 0 u
def simpleE (b : UInt8) : Option UInt8 :=
  if b = 34 ∨ b = 92 ∨ b = 47 then some b
  else if b = 98 then some 8
  else if b = 102 then some 12
  else if b = 110 then some 10
  else if b = 114 then some 13
  else if b = 116 then some 9
  else none
def codeR (f : Nat) (c : Nat) (l : List UInt8) : PR (List UInt8) :=
  if 56320 ≤ c ∧ c ≤ 57343 then .bad 54 f
  else if 55296 ≤ c ∧ c ≤ 56319 then
    (unitR f l).bind fun d t => if 56320 ≤ d ∧ d ≤ 57343 then .ok (Lib.encodeRune ((65536 + 1024 * (c - 55296) + (d - 56320) : Nat) : Int)) t else .bad 54 f
  else .ok (Lib.encodeRune (c : Int)) l
def escR (l : List UInt8) : PR (List UInt8) :=
  match l with
  | _ :: b :: t =>
    if b = 117 then (fourR l.length 4 0 t).bind fun c u => codeR l.length c u
    else match simpleE b with
      | none => .bad 54 l.length
      | some c => .ok [c] t
  | _ => .bad 54 0
def utfN (l : List UInt8) : Nat := if l = [] then 0 else if (Lib.decodeL l).1 = 65533 ∧ (Lib.decodeL l).2 = 1 then 0 else (Lib.decodeL l).2
def txtR : Nat → List UInt8 → List UInt8 → PR (List UInt8)
  | 0, l, _ => .bad 54 l.length
  | _ + 1, [], _ => .bad 54 0
  | n + 1, b :: t, acc =>
    if b = 34 then .ok acc t
    else if b = 92 then (escR (b :: t)).bind fun c u => txtR n u (acc ++ c)
    else if b.toNat < 32 ∨ utfN (b :: t) = 0 then .bad 54 (t.length + 1)
    else txtR n ((b :: t).drop (utfN (b :: t))) (acc ++ (b :: t).take (utfN (b :: t)))
def textR (l : List UInt8) : PR (List UInt8) := (takeR 34 l).bind fun _ t => txtR (t.length + 1) t []
def itemsR {α : Type} (one : List UInt8 → PR α) (c : UInt8) : Nat → List UInt8 → List α → PR (List α)
  | 0, l, _ => .bad 54 l.length
  | n + 1, l, acc => (one l).bind fun v r => if hdB (skipJ r) = c then .ok (acc ++ [v]) (skipJ r).tail
      else (takeR 44 (skipJ r)).bind fun _ u => itemsR one c n (skipJ u) (acc ++ [v])
def rowR {α : Type} (one : List UInt8 → PR α) (c : UInt8) (l : List UInt8) : PR (List α) :=
  if hdB (skipJ l) = c then .ok [] (skipJ l).tail else itemsR one c (l.length + 1) (skipJ l) []
def pairR (one : List UInt8 → PR JsonD) (l : List UInt8) : PR (List UInt8 × JsonD) :=
  (textR l).bind fun name r => (takeR 58 (skipJ r)).bind fun _ u => (one (skipJ u)).bind fun v t => .ok (name, v) t
def constR (w : List UInt8) (k : Int) (l : List UInt8) : PR JsonD :=
  (wordR w l).bind fun _ t => .ok (.mk k [] [] []) t
def atomR (l : List UInt8) : PR JsonD :=
  if hdB l = 34 then (textR l).bind fun s t => .ok (.mk 5 s [] []) t
  else if hdB l = 110 then constR [110, 117, 108, 108] 1 l
  else if hdB l = 116 then constR [116, 114, 117, 101] 3 l
  else if hdB l = 102 then constR [102, 97, 108, 115, 101] 2 l
  else if hdB l = 45 ∨ tenJ (hdB l) = true then (numR l).bind fun _ t => .ok (.mk 4 (l.take (l.length - t.length)) [] []) t
  else .bad 54 l.length
def valR : Nat → List UInt8 → PR JsonD
  | 0, l => if hdB l = 91 ∨ hdB l = 123 then .bad 57 l.length else atomR l
  | d + 1, l =>
    if hdB l = 91 then (rowR (valR d) 93 l.tail).bind fun ks t => .ok (.mk 6 [] [] ks) t
    else if hdB l = 123 then (rowR (pairR (valR d)) 125 l.tail).bind fun ks t => .ok (.mk 7 [] (ks.map (·.1)) (ks.map (·.2))) t
    else atomR l
def parseJ (s : List UInt8) : Except (Nat × Nat) JsonD :=
  if 8000 < s.length then .error (56, 0)
  else match valR 20 (skipJ s) with
    | .bad e n => .error (e, s.length - n)
    | .ok v t => if skipJ t = [] then .ok v else .error (54, s.length - (skipJ t).length)
end Go.Proofs.YtlhhiiemojhjdaaDoor
set_option linter.unusedVariables false
set_option linter.unusedSimpArgs false
namespace Go.Proofs.YtlhhiiemojhjdaaDoor
open Go Go.RowKit
def PR.good {α : Type} (l : List UInt8) (a : PR α) : Prop := match a with
  | .ok _ r => r <:+ l
  | .bad _ n => n ≤ l.length
theorem good_bind {α β : Type} {l : List UInt8} {a : PR α} {k : α → List UInt8 → PR β} (h : a.good l) (hk : ∀ v r, a = .ok v r → (k v r).good r) : (a.bind k).good l := by
  cases a with
  | bad e n => exact h
  | ok v r =>
    have h1 : r <:+ l := h
    have h2 := hk v r rfl
    show (k v r).good l
    cases hkv : k v r with
    | bad e n => rw [hkv] at h2; exact Nat.le_trans h2 h1.length_le
    | ok v' r' => rw [hkv] at h2; exact List.IsSuffix.trans h2 h1
theorem skip_suf (l : List UInt8) : skipJ l <:+ l := List.dropWhile_suffix _
theorem skip_len (l : List UInt8) : (skipJ l).length ≤ l.length := (skip_suf l).length_le
theorem good_suf {α : Type} {l m : List UInt8} {a : PR α} (h : a.good l) (hs : l <:+ m) : a.good m := by
  cases a with
  | bad e n => exact Nat.le_trans h hs.length_le
  | ok v r => exact List.IsSuffix.trans h hs
theorem takeR_good (b : UInt8) (l : List UInt8) : (takeR b l).good l := by
  cases l with
  | nil => exact Nat.le_refl _
  | cons c t =>
    rw [takeR]
    split
    · exact List.suffix_cons c t
    · exact Nat.le_refl _
theorem wordR_good : ∀ (w l : List UInt8), (wordR w l).good l
  | [], l => List.suffix_refl l
  | b :: w, l => good_bind (takeR_good b l) fun _ t _ => wordR_good w t
theorem digR_good (l : List UInt8) : (digR l).good l := by
  unfold digR
  split
  · exact List.dropWhile_suffix _
  · exact Nat.le_refl _
theorem minus_suf (l : List UInt8) : minusR l <:+ l := by unfold minusR; split; exact List.tail_suffix l; exact List.suffix_refl l
theorem sign_suf (l : List UInt8) : signR l <:+ l := by unfold signR; split; exact List.tail_suffix l; exact List.suffix_refl l
theorem intR_good (l : List UInt8) : (intR l).good l := by unfold intR; split; exact List.tail_suffix l; exact digR_good l
theorem fracR_good (l : List UInt8) : (fracR l).good l := by unfold fracR; split; exact good_suf (digR_good _) (List.tail_suffix l); exact List.suffix_refl l
theorem expR_good (l : List UInt8) : (expR l).good l := by unfold expR; split; exact good_suf (digR_good _) (List.IsSuffix.trans (sign_suf _) (List.tail_suffix l)); exact List.suffix_refl l
theorem numR_good (l : List UInt8) : (numR l).good l :=
  good_bind (good_suf (intR_good _) (minus_suf l)) fun _ r _ => good_bind (fracR_good r) fun _ r' _ => expR_good r'
theorem fourR_good {m : List UInt8} {f : Nat} (hf : f ≤ m.length) : ∀ (k n : Nat) (l : List UInt8), l <:+ m → (fourR f k n l).good m
  | 0, n, l, h => h
  | k + 1, n, [], h => by simp [fourR, PR.good]
  | k + 1, n, b :: t, h => by
    unfold fourR
    split
    · exact hf
    · exact fourR_good hf k _ t (List.IsSuffix.trans (List.suffix_cons b t) h)
theorem mustR_good {m : List UInt8} {f : Nat} (hf : f ≤ m.length) (b : UInt8) (l : List UInt8) (h : l <:+ m) : (mustR f b l).good m := by
  cases l with
  | nil => simp [mustR, PR.good]
  | cons c t =>
    rw [mustR]
    split
    · exact List.IsSuffix.trans (List.suffix_cons c t) h
    · exact hf
theorem good_bind' {α β : Type} {m : List UInt8} {a : PR α} {k : α → List UInt8 → PR β} (h : a.good m) (hk : ∀ v r, a = .ok v r → r <:+ m → (k v r).good m) : (a.bind k).good m := by
  cases a with
  | bad e n => exact h
  | ok v r => exact hk v r rfl h
theorem unitR_good {m : List UInt8} {f : Nat} (hf : f ≤ m.length) (l : List UInt8) (h : l <:+ m) : (unitR f l).good m :=
  good_bind' (mustR_good hf _ l h) fun _ t _ ht => good_bind' (mustR_good hf _ t ht) fun _ u _ hu => fourR_good hf _ _ u hu
theorem codeR_good {m : List UInt8} {f : Nat} (hf : f ≤ m.length) (c : Nat) (l : List UInt8) (h : l <:+ m) : (codeR f c l).good m := by
  unfold codeR
  split
  · exact hf
  · split
    · refine good_bind' (unitR_good hf l h) fun d t _ ht => ?_
      split
      · exact ht
      · exact hf
    · exact h
theorem escR_good (l : List UInt8) : (escR l).good l := by
  match l with
  | [] => exact Nat.le_refl _
  | [a] => exact Nat.zero_le _
  | a :: b :: t =>
    rw [escR]
    have hs : t <:+ a :: b :: t := List.IsSuffix.trans (List.suffix_cons b t) (List.suffix_cons a _)
    split
    · exact good_bind' (fourR_good (Nat.le_refl _) _ _ t hs) fun c u _ hu => codeR_good (Nat.le_refl _) c u hu
    · split
      · exact Nat.le_refl _
      · exact hs
theorem txtR_good : ∀ (n : Nat) (l acc : List UInt8), (txtR n l acc).good l
  | 0, l, acc => Nat.le_refl _
  | n + 1, [], acc => Nat.le_refl _
  | n + 1, b :: t, acc => by
    unfold txtR
    split
    · exact List.suffix_cons b t
    · split
      · exact good_bind (escR_good _) fun c u _ => txtR_good n u _
      · split
        · exact Nat.le_refl _
        · exact good_suf (txtR_good n _ _) (List.drop_suffix _ _)
theorem textR_good (l : List UInt8) : (textR l).good l := good_bind (takeR_good _ l) fun _ t _ => txtR_good _ t _
theorem itemsR_good {α : Type} {one : List UInt8 → PR α} (h1 : ∀ l, (one l).good l) (c : UInt8) : ∀ (n : Nat) (l : List UInt8) (acc : List α), (itemsR one c n l acc).good l
  | 0, l, acc => Nat.le_refl _
  | n + 1, l, acc => by
    unfold itemsR
    refine good_bind (h1 l) fun v r _ => ?_
    split
    · exact List.IsSuffix.trans (List.tail_suffix _) (skip_suf r)
    · exact good_suf (good_bind (takeR_good _ _) fun _ u _ => good_suf (itemsR_good h1 c n _ _) (skip_suf u)) (skip_suf r)
theorem rowR_good {α : Type} {one : List UInt8 → PR α} (h1 : ∀ l, (one l).good l) (c : UInt8) (l : List UInt8) : (rowR one c l).good l := by
  unfold rowR
  split
  · exact List.IsSuffix.trans (List.tail_suffix _) (skip_suf l)
  · exact good_suf (itemsR_good h1 c _ _ _) (skip_suf l)
theorem pairR_good {one : List UInt8 → PR JsonD} (h1 : ∀ l, (one l).good l) (l : List UInt8) : (pairR one l).good l :=
  good_bind (textR_good l) fun _ r _ => good_suf (good_bind (takeR_good _ _) fun _ u _ => good_suf (good_bind (h1 _) fun _ t _ => List.suffix_refl t) (skip_suf u)) (skip_suf r)
theorem constR_good (w : List UInt8) (k : Int) (l : List UInt8) : (constR w k l).good l := good_bind (wordR_good w l) fun _ t _ => List.suffix_refl t
theorem atomR_good (l : List UInt8) : (atomR l).good l := by
  unfold atomR
  split
  · exact good_bind (textR_good l) fun _ t _ => List.suffix_refl t
  · split
    · exact constR_good _ _ l
    · split
      · exact constR_good _ _ l
      · split
        · exact constR_good _ _ l
        · split
          · exact good_bind (numR_good l) fun _ t _ => List.suffix_refl t
          · exact Nat.le_refl _
theorem valR_good : ∀ (d : Nat) (l : List UInt8), (valR d l).good l
  | 0, l => by
    unfold valR
    split
    · exact Nat.le_refl _
    · exact atomR_good l
  | d + 1, l => by
    unfold valR
    split
    · exact good_suf (good_bind (rowR_good (valR_good d) _ _) fun _ t _ => List.suffix_refl t) (List.tail_suffix l)
    · split
      · exact good_suf (good_bind (rowR_good (pairR_good (valR_good d)) _ _) fun _ t _ => List.suffix_refl t) (List.tail_suffix l)
      · exact atomR_good l
def PR.eats {α : Type} (l : List UInt8) (a : PR α) : Prop := ∀ v r, a = .ok v r → r.length < l.length
theorem eats_bind {α β : Type} {l : List UInt8} {a : PR α} {k : α → List UInt8 → PR β} (h : a.eats l) (hk : ∀ v r, (k v r).good r) : (a.bind k).eats l := by
  intro v r e
  cases a with
  | bad e' n => cases e
  | ok v' r' =>
    have h1 := h v' r' rfl
    have h2 := hk v' r'
    have e : k v' r' = .ok v r := e
    rw [e] at h2
    have := List.IsSuffix.length_le h2
    omega
theorem takeR_eats (b : UInt8) (l : List UInt8) : (takeR b l).eats l := by
  intro v r e
  cases l with
  | nil => cases e
  | cons c t =>
    rw [takeR] at e
    split at e
    · injection e with _ e; subst e; simp
    · cases e
theorem hd_ne {l : List UInt8} (h : hdB l ≠ 0) : ∃ t, l = hdB l :: t := by
  cases l with
  | nil => exact absurd rfl h
  | cons b t => exact ⟨t, rfl⟩
theorem tail_lt {l : List UInt8} (h : hdB l ≠ 0) : l.tail.length < l.length := by
  obtain ⟨t, e⟩ := hd_ne h
  rw [e]; simp
theorem ten_ne {b : UInt8} (h : tenJ b = true) : b ≠ 0 := by
  intro e; subst e; exact absurd h (by decide)
theorem digR_eats (l : List UInt8) : (digR l).eats l := by
  intro v r e
  unfold digR at e
  split at e
  · next h =>
    injection e with _ e
    obtain ⟨t, ht⟩ := hd_ne (ten_ne h)
    subst e
    obtain ⟨b, hb⟩ : ∃ b, hdB l = b := ⟨_, rfl⟩
    rw [hb] at h ht
    rw [ht, List.dropWhile_cons_of_pos h]
    have := (List.dropWhile_suffix (l := t) tenJ).length_le
    simp; omega
  · cases e
theorem intR_eats (l : List UInt8) : (intR l).eats l := by
  intro v r e
  unfold intR at e
  split at e
  · next h =>
    injection e with _ e
    subst e
    exact tail_lt (by rw [h]; decide)
  · exact digR_eats l v r e
theorem numR_eats (l : List UInt8) : (numR l).eats l := by
  unfold numR
  refine eats_bind ?_ (fun _ r => good_bind (fracR_good r) fun _ r' _ => expR_good r')
  intro v r e
  have h1 := intR_eats _ v r e
  have h2 := (minus_suf l).length_le
  omega
theorem textR_eats (l : List UInt8) : (textR l).eats l := eats_bind (takeR_eats _ l) fun _ t => txtR_good _ t _
theorem constR_eats (b : UInt8) (w : List UInt8) (k : Int) (l : List UInt8) : (constR (b :: w) k l).eats l := by
  unfold constR
  refine eats_bind ?_ (fun _ t => List.suffix_refl t)
  exact eats_bind (takeR_eats b l) fun _ t => wordR_good w t
theorem atomR_eats (l : List UInt8) : (atomR l).eats l := by
  unfold atomR
  split
  · exact eats_bind (textR_eats l) fun _ t => List.suffix_refl t
  · split
    · exact constR_eats _ _ _ l
    · split
      · exact constR_eats _ _ _ l
      · split
        · exact constR_eats _ _ _ l
        · split
          · exact eats_bind (numR_eats l) fun _ t => List.suffix_refl t
          · intro v r e; cases e
theorem valR_eats (d : Nat) (l : List UInt8) : (valR d l).eats l := by
  cases d with
  | zero =>
    unfold valR
    split
    · intro v r e; cases e
    · exact atomR_eats l
  | succ d =>
    unfold valR
    split
    · next h =>
      intro v r e
      have h1 := good_bind (rowR_good (valR_good d) 93 l.tail) (k := fun ks t => PR.ok (JsonD.mk 6 [] [] ks) t) fun _ t _ => List.suffix_refl t
      rw [e] at h1
      have h2 := List.IsSuffix.length_le h1
      have h3 := tail_lt (l := l) (by rw [h]; decide)
      omega
    · split
      · next h =>
        intro v r e
        have h1 := good_bind (rowR_good (pairR_good (valR_good d)) 125 l.tail) (k := fun ks t => PR.ok (JsonD.mk 7 [] (ks.map (·.1)) (ks.map (·.2))) t) fun _ t _ => List.suffix_refl t
        rw [e] at h1
        have h2 := List.IsSuffix.length_le h1
        have h3 := tail_lt (l := l) (by rw [h]; decide)
        omega
      · exact atomR_eats l
theorem pairR_eats {one : List UInt8 → PR JsonD} (h1 : ∀ l, (one l).good l) (l : List UInt8) : (pairR one l).eats l :=
  eats_bind (textR_eats l) fun _ r => good_suf (good_bind (takeR_good _ _) fun _ u _ => good_suf (good_bind (h1 _) fun _ t _ => List.suffix_refl t) (skip_suf u)) (skip_suf r)
end Go.Proofs.YtlhhiiemojhjdaaDoor
set_option linter.unusedVariables false
set_option linter.unusedSimpArgs false
namespace Go.Proofs.YtlhhiiemojhjdaaDoor
open Go Go.RowKit
def stopB (b : UInt8) : Bool := !(tenJ b) && b != 46 && b != 101 && b != 69
def stopX (x : List UInt8) : Prop := stopB (hdB x) = true
def wsAll (x : List UInt8) : Prop := ∀ b ∈ x, wsB b = true
def PR.ext {α : Type} (x : List UInt8) (a b : PR α) : Prop := match a with
  | .ok v r => (r ≠ [] ∨ stopX x) → b = .ok v (r ++ x)
  | .bad e n => (e = 57 → b = .bad 57 (n + x.length)) ∧ (wsAll x → ∃ m, b = .bad e m ∧ (n ≠ 0 → m = n + x.length))
def PR.fin {α : Type} (a : PR α) : Prop := match a with
  | .ok _ r => r = []
  | .bad e _ => e ≠ 57
theorem drop_ten {x : List UInt8} (h : tenJ (hdB x) = false) : x.dropWhile tenJ = x := by
  cases x with
  | nil => rfl
  | cons b t => exact List.dropWhile_cons_of_neg (by rw [show hdB (b :: t) = b from rfl] at h; rw [h]; decide)
def uN (n b0 b1 b2 b3 : Nat) : Nat := if n = 0 then 0 else if (Lib.decodeN n b0 b1 b2 b3).1 = 65533 ∧ (Lib.decodeN n b0 b1 b2 b3).2 = 1 then 0 else (Lib.decodeN n b0 b1 b2 b3).2
theorem get_list (l : List UInt8) (i : Nat) : (ByteArray.mk l.toArray).get! i = gB l i := by
  unfold gB
  show l.toArray[i]! = _
  simp [List.getD, Array.getElem!_eq_getD]
  rfl
theorem utf_uN (l : List UInt8) : utfN l = uN l.length (gB l 0).toNat (gB l 1).toNat (gB l 2).toNat (gB l 3).toNat := by
  unfold utfN uN Lib.decodeL
  rw [Lib.decode_at, get_list, get_list, get_list, get_list]
  have hs : (ByteArray.mk l.toArray).size - 0 = l.length := rfl
  rw [hs]
  cases l with
  | nil => rfl
  | cons b t => simp
theorem utf_ascii (b : UInt8) (t : List UInt8) (h : b.toNat < 128) : utfN (b :: t) = 1 := by
  rw [utf_uN]
  have e : gB (b :: t) 0 = b := rfl
  rw [e]
  unfold uN Lib.decodeN
  simp only [h, if_true]
  rw [if_neg (by simp), if_neg (by omega)]
end Go.Proofs.YtlhhiiemojhjdaaDoor
set_option linter.unusedVariables false
set_option linter.unusedSimpArgs false
namespace Go.Proofs.YtlhhiiemojhjdaaDoor
open Go Go.RowKit
def Deep {α : Type} (a b : PR α) : Prop := ∀ v r, a = .ok v r → b = .ok v r ∨ ∃ n, b = .bad 57 n
end Go.Proofs.YtlhhiiemojhjdaaDoor
set_option linter.unusedVariables false
set_option linter.unusedSimpArgs false
namespace Go.Proofs.YtlhhiiemojhjdaaDoor
open Go Go.RowKit
def U2 (b0 b1 : Nat) : Prop := b0 / 32 = 6 ∧ b1 / 64 = 2 ∧ 128 ≤ b0 % 32 * 64 + b1 % 64
def U3 (b0 b1 b2 : Nat) : Prop := b0 / 16 = 14 ∧ b1 / 64 = 2 ∧ b2 / 64 = 2 ∧ 2048 ≤ b0 % 16 * 4096 + b1 % 64 * 64 + b2 % 64 ∧ (b0 % 16 * 4096 + b1 % 64 * 64 + b2 % 64 < 55296 ∨ 57344 ≤ b0 % 16 * 4096 + b1 % 64 * 64 + b2 % 64)
def U4 (b0 b1 b2 b3 : Nat) : Prop := b0 / 8 = 30 ∧ b1 / 64 = 2 ∧ b2 / 64 = 2 ∧ b3 / 64 = 2 ∧ 65536 ≤ b0 % 8 * 262144 + b1 % 64 * 4096 + b2 % 64 * 64 + b3 % 64 ∧ b0 % 8 * 262144 + b1 % 64 * 4096 + b2 % 64 * 64 + b3 % 64 ≤ 1114111
def UC (n b0 b1 b2 b3 k : Nat) : Prop := (k = 1 ∧ 0 < n ∧ b0 < 128) ∨ (k = 2 ∧ 1 < n ∧ U2 b0 b1) ∨ (k = 3 ∧ 2 < n ∧ U3 b0 b1 b2) ∨ (k = 4 ∧ 3 < n ∧ U4 b0 b1 b2 b3)
theorem uN_val {n b0 b1 b2 b3 : Nat} (h0 : n ≠ 0) {v w : Nat} (h : Lib.decodeN n b0 b1 b2 b3 = (v, w)) : uN n b0 b1 b2 b3 = if v = 65533 ∧ w = 1 then 0 else w := by
  unfold uN; rw [if_neg h0, h]
theorem uN_cases {n b0 b1 b2 b3 k : Nat} (h : uN n b0 b1 b2 b3 = k) (hk : k ≠ 0) : UC n b0 b1 b2 b3 k := by
  by_cases h0 : n = 0
  · unfold uN at h; rw [if_pos h0] at h; exact absurd h.symm hk
  have bad : Lib.decodeN n b0 b1 b2 b3 = (65533, 1) → UC n b0 b1 b2 b3 k := fun e => by
    rw [uN_val h0 e, if_pos ⟨rfl, rfl⟩] at h; exact absurd h.symm hk
  unfold Lib.decodeN at bad
  by_cases a : b0 < 128
  · have e : Lib.decodeN n b0 b1 b2 b3 = (b0, 1) := by unfold Lib.decodeN; rw [if_pos a]
    rw [uN_val h0 e, if_neg (by omega)] at h
    exact .inl ⟨h.symm, by omega, a⟩
  · rw [if_neg a] at bad
    by_cases a2 : b0 / 32 = 6 ∧ (1 < n ∧ b1 / 64 = 2)
    · rw [if_pos a2] at bad
      by_cases c : b0 % 32 * 64 + b1 % 64 ≥ 128
      · have e : Lib.decodeN n b0 b1 b2 b3 = (b0 % 32 * 64 + b1 % 64, 2) := by unfold Lib.decodeN; rw [if_neg a, if_pos a2, if_pos c]
        rw [uN_val h0 e, if_neg (by omega)] at h
        exact .inr (.inl ⟨h.symm, a2.2.1, a2.1, a2.2.2, c⟩)
      · rw [if_neg c] at bad; exact bad rfl
    · rw [if_neg a2] at bad
      by_cases a3 : b0 / 16 = 14 ∧ (1 < n ∧ b1 / 64 = 2) ∧ (2 < n ∧ b2 / 64 = 2)
      · rw [if_pos a3] at bad
        by_cases c : b0 % 16 * 4096 + b1 % 64 * 64 + b2 % 64 ≥ 2048 ∧ (b0 % 16 * 4096 + b1 % 64 * 64 + b2 % 64 < 55296 ∨ (57344 ≤ b0 % 16 * 4096 + b1 % 64 * 64 + b2 % 64 ∧ b0 % 16 * 4096 + b1 % 64 * 64 + b2 % 64 ≤ 1114111))
        · have e : Lib.decodeN n b0 b1 b2 b3 = (b0 % 16 * 4096 + b1 % 64 * 64 + b2 % 64, 3) := by unfold Lib.decodeN; rw [if_neg a, if_neg a2, if_pos a3, if_pos c]
          rw [uN_val h0 e, if_neg (by omega)] at h
          exact .inr (.inr (.inl ⟨h.symm, a3.2.2.1, a3.1, a3.2.1.2, a3.2.2.2, c.1, by omega⟩))
        · rw [if_neg c] at bad; exact bad rfl
      · rw [if_neg a3] at bad
        by_cases a4 : b0 / 8 = 30 ∧ (1 < n ∧ b1 / 64 = 2) ∧ (2 < n ∧ b2 / 64 = 2) ∧ (3 < n ∧ b3 / 64 = 2)
        · rw [if_pos a4] at bad
          by_cases c : b0 % 8 * 262144 + b1 % 64 * 4096 + b2 % 64 * 64 + b3 % 64 ≥ 65536 ∧ (b0 % 8 * 262144 + b1 % 64 * 4096 + b2 % 64 * 64 + b3 % 64 < 55296 ∨ (57344 ≤ b0 % 8 * 262144 + b1 % 64 * 4096 + b2 % 64 * 64 + b3 % 64 ∧ b0 % 8 * 262144 + b1 % 64 * 4096 + b2 % 64 * 64 + b3 % 64 ≤ 1114111))
          · have e : Lib.decodeN n b0 b1 b2 b3 = (b0 % 8 * 262144 + b1 % 64 * 4096 + b2 % 64 * 64 + b3 % 64, 4) := by unfold Lib.decodeN; rw [if_neg a, if_neg a2, if_neg a3, if_pos a4, if_pos c]
            rw [uN_val h0 e, if_neg (by omega)] at h
            exact .inr (.inr (.inr ⟨h.symm, a4.2.2.2.1, a4.1, a4.2.1.2, a4.2.2.1.2, a4.2.2.2.2, c.1, by omega⟩))
          · rw [if_neg c] at bad; exact bad rfl
        · rw [if_neg a4] at bad; exact bad rfl
theorem uN_of {n b0 b1 b2 b3 k : Nat} (h : UC n b0 b1 b2 b3 k) : uN n b0 b1 b2 b3 = k := by
  unfold UC U2 U3 U4 at h
  rcases h with h | h | h | h
  · have e : Lib.decodeN n b0 b1 b2 b3 = (b0, 1) := by unfold Lib.decodeN; rw [if_pos h.2.2]
    rw [uN_val (by omega) e, if_neg (by omega)]; exact h.1.symm
  · have e : Lib.decodeN n b0 b1 b2 b3 = (b0 % 32 * 64 + b1 % 64, 2) := by unfold Lib.decodeN; rw [if_neg (by omega), if_pos (by omega), if_pos (by omega)]
    rw [uN_val (by omega) e, if_neg (by omega)]; exact h.1.symm
  · have e : Lib.decodeN n b0 b1 b2 b3 = (b0 % 16 * 4096 + b1 % 64 * 64 + b2 % 64, 3) := by unfold Lib.decodeN; rw [if_neg (by omega), if_neg (by omega), if_pos (by omega), if_pos (by omega)]
    rw [uN_val (by omega) e, if_neg (by omega)]; exact h.1.symm
  · have e : Lib.decodeN n b0 b1 b2 b3 = (b0 % 8 * 262144 + b1 % 64 * 4096 + b2 % 64 * 64 + b3 % 64, 4) := by unfold Lib.decodeN; rw [if_neg (by omega), if_neg (by omega), if_neg (by omega), if_pos (by omega), if_pos (by omega)]
    rw [uN_val (by omega) e, if_neg (by omega)]; exact h.1.symm
theorem utf_cases {l : List UInt8} (h : utfN l ≠ 0) : UC l.length (gB l 0).toNat (gB l 1).toNat (gB l 2).toNat (gB l 3).toNat (utfN l) := uN_cases (utf_uN l).symm h
theorem utf_of {l : List UInt8} {k : Nat} (h : UC l.length (gB l 0).toNat (gB l 1).toNat (gB l 2).toNat (gB l 3).toNat k) : utfN l = k := by rw [utf_uN]; exact uN_of h
theorem valid_step {l : List UInt8} (hl : l ≠ []) : Lib.validD l = if utfN l = 0 then false else Lib.validD (l.drop (utfN l)) := by
  rw [Lib.validD_step l hl]
  unfold utfN
  rw [if_neg hl]
  by_cases h : (Lib.decodeL l).1 = 65533 ∧ (Lib.decodeL l).2 = 1
  · simp [h]
  · have hw := Lib.decodeL_width l
    rw [if_neg h, if_neg h, if_neg (by omega)]
end Go.Proofs.YtlhhiiemojhjdaaDoor
set_option linter.unusedVariables false
set_option linter.unusedSimpArgs false
namespace Go.Proofs.YtlhhiiemojhjdaaDoor
open Go Go.RowKit
def isNumL (t : List UInt8) : Bool := match numR t with
  | .ok _ [] => true
  | _ => false
mutual
def wfJ : JsonD → Nat → Bool
  | .mk k t ns ks, d =>
    if k = 1 ∨ k = 2 ∨ k = 3 then t.isEmpty && ns.isEmpty && ks.isEmpty
    else if k = 4 then ns.isEmpty && ks.isEmpty
    else if k = 5 then ns.isEmpty && ks.isEmpty && Lib.validD t
    else if k = 6 then t.isEmpty && ns.isEmpty && decide (0 < d) && wfKs ks (d - 1)
    else if k = 7 then t.isEmpty && decide (ns.length = ks.length) && ns.all Lib.validD && decide (0 < d) && wfKs ks (d - 1)
    else false
def wfKs : List JsonD → Nat → Bool
  | [], _ => true
  | j :: r, d => wfJ j d && wfKs r d
end
mutual
def cntJ : JsonD → Nat
  | .mk _ _ _ ks => cntKs ks + 1
def cntKs : List JsonD → Nat
  | [] => 0
  | j :: r => cntJ j + cntKs r
end
mutual
def numJ : JsonD → Bool
  | .mk k t _ ks => (decide (k ≠ 4) || isNumL t) && numKs ks
def numKs : List JsonD → Bool
  | [] => true
  | j :: r => numJ j && numKs r
end
theorem wfKs_app (a b : List JsonD) (d : Nat) : wfKs (a ++ b) d = (wfKs a d && wfKs b d) := by
  induction a with
  | nil => rfl
  | cons j r ih => rw [List.cons_append, wfKs, wfKs, ih, Bool.and_assoc]
theorem cntKs_app (a b : List JsonD) : cntKs (a ++ b) = cntKs a + cntKs b := by
  induction a with
  | nil => simp [cntKs]
  | cons j r ih => rw [List.cons_append, cntKs, cntKs, ih, Nat.add_assoc]
theorem numKs_app (a b : List JsonD) : numKs (a ++ b) = (numKs a && numKs b) := by
  induction a with
  | nil => rfl
  | cons j r ih => rw [List.cons_append, numKs, numKs, ih, Bool.and_assoc]
end Go.Proofs.YtlhhiiemojhjdaaDoor
set_option linter.unusedVariables false
set_option linter.unusedSimpArgs false
namespace Go.Proofs.YtlhhiiemojhjdaaDoor
open Go Go.RowKit
def hexD (n : Nat) : UInt8 := if n < 10 then (48 + n).toUInt8 else (87 + n).toUInt8
def escB (b : UInt8) : List UInt8 :=
  if b = 34 ∨ b = 92 then [92, b]
  else if b = 10 then [92, 110]
  else if b = 13 then [92, 114]
  else if b = 9 then [92, 116]
  else if b.toNat < 32 then [92, 117, 48, 48, hexD (b.toNat / 16), hexD (b.toNat % 16)]
  else [b]
def escL (s : List UInt8) : List UInt8 := s.flatMap escB
def quoteJ (s : List UInt8) : List UInt8 := 34 :: (escL s ++ [34])
def commaJ (first : Bool) : List UInt8 := if first then [] else [44]
mutual
def writeJ : JsonD → List UInt8
  | .mk k t ns ks =>
    if k = 1 then [110, 117, 108, 108]
    else if k = 2 then [102, 97, 108, 115, 101]
    else if k = 3 then [116, 114, 117, 101]
    else if k = 4 then t
    else if k = 5 then quoteJ t
    else if k = 7 then 123 :: (writePs ks ns true ++ [125])
    else 91 :: (writeKs ks true ++ [93])
def writeKs : List JsonD → Bool → List UInt8
  | [], _ => []
  | j :: r, first => commaJ first ++ (writeJ j ++ writeKs r false)
def writePs : List JsonD → List (List UInt8) → Bool → List UInt8
  | [], _, _ => []
  | j :: r, ns, first => commaJ first ++ (quoteJ (ns.headD []) ++ 58 :: (writeJ j ++ writePs r ns.tail false))
end
theorem escL_app (a b : List UInt8) : escL (a ++ b) = escL a ++ escL b := by simp [escL]
theorem escL_cons (b : UInt8) (t : List UInt8) : escL (b :: t) = escB b ++ escL t := by simp [escL]
theorem wfKs_mem {ks : List JsonD} {d : Nat} (h : wfKs ks d = true) : ∀ v ∈ ks, wfJ v d = true := by
  induction ks with
  | nil => intro v hv; cases hv
  | cons j r ih =>
    rw [wfKs, Bool.and_eq_true] at h
    intro v hv
    rcases List.mem_cons.1 hv with e | e
    · rw [e]; exact h.1
    · exact ih h.2 v e
end Go.Proofs.YtlhhiiemojhjdaaDoor
set_option linter.unusedVariables false
set_option linter.unusedSimpArgs false
namespace Go.Proofs.YtlhhiiemojhjdaaDoor
open Go Go.RowKit
def matL : List UInt8 → List UInt8 → Bool
  | [], s => s.isEmpty
  | p :: ps, s =>
    if p = 42 then (List.range (s.length + 1)).any fun k => matL ps (s.drop k)
    else match s with
      | [] => false
      | c :: t => (p == 63 || p == c) && matL ps t
theorem mat_star (ps s : List UInt8) : matL (42 :: ps) s = true ↔ ∃ k, k ≤ s.length ∧ matL ps (s.drop k) = true := by
  have e : matL (42 :: ps) s = (List.range (s.length + 1)).any fun k => matL ps (s.drop k) := by cases s <;> rfl
  rw [e, List.any_eq_true]
  constructor
  · rintro ⟨k, hk, h⟩; exact ⟨k, by rw [List.mem_range] at hk; omega, h⟩
  · rintro ⟨k, hk, h⟩; exact ⟨k, by rw [List.mem_range]; omega, h⟩
def fitB (p c : UInt8) : Bool := p == 63 || p == c
theorem mat_byte {p : UInt8} (hp : p ≠ 42) (ps s : List UInt8) : matL (p :: ps) s = true ↔ ∃ c t, s = c :: t ∧ fitB p c = true ∧ matL ps t = true := by
  unfold fitB
  cases s with
  | nil => rw [matL, if_neg hp]; simp
  | cons c t =>
    rw [matL, if_neg hp]
    simp only [Bool.and_eq_true]
    constructor
    · intro h; exact ⟨c, t, rfl, h.1, h.2⟩
    · rintro ⟨c', t', e, h1, h2⟩; cases e; exact ⟨h1, h2⟩
theorem mat_nil (s : List UInt8) : matL [] s = true ↔ s = [] := by rw [matL, List.isEmpty_iff]
theorem mat_app (q : List UInt8) : ∀ (p s : List UInt8), matL (p ++ q) s = true ↔ ∃ k, k ≤ s.length ∧ matL p (s.take k) = true ∧ matL q (s.drop k) = true
  | [], s => by
    rw [List.nil_append]
    constructor
    · intro h; exact ⟨0, Nat.zero_le _, by rw [List.take_zero]; rfl, h⟩
    · rintro ⟨k, hk, h1, h2⟩
      rw [mat_nil] at h1
      have hk0 : k = 0 := by have := congrArg List.length h1; rw [List.length_take, List.length_nil] at this; omega
      subst hk0; exact h2
  | c :: p, s => by
    rw [List.cons_append]
    by_cases hc : c = 42
    · subst hc
      rw [mat_star]
      constructor
      · rintro ⟨j, hj, h⟩
        rw [mat_app q p] at h
        obtain ⟨k, hk, h1, h2⟩ := h
        rw [List.length_drop] at hk
        refine ⟨j + k, by omega, ?_, by rw [List.drop_drop] at h2; exact h2⟩
        rw [mat_star]
        refine ⟨j, by rw [List.length_take]; omega, ?_⟩
        rw [List.drop_take, show j + k - j = k by omega]; exact h1
      · rintro ⟨k, hk, h1, h2⟩
        rw [mat_star] at h1
        obtain ⟨j, hj, h3⟩ := h1
        rw [List.length_take] at hj
        refine ⟨j, by omega, ?_⟩
        rw [mat_app q p]
        refine ⟨k - j, by rw [List.length_drop]; omega, ?_, ?_⟩
        · rw [List.drop_take] at h3; exact h3
        · rw [List.drop_drop, show j + (k - j) = k by omega]; exact h2
    · rw [mat_byte hc]
      constructor
      · rintro ⟨b, t, rfl, h1, h2⟩
        rw [mat_app q p] at h2
        obtain ⟨k, hk, h3, h4⟩ := h2
        refine ⟨k + 1, by simp; omega, ?_, h4⟩
        rw [List.take_succ_cons, mat_byte hc]
        exact ⟨b, _, rfl, h1, h3⟩
      · rintro ⟨k, hk, h1, h2⟩
        rw [mat_byte hc] at h1
        obtain ⟨b, t, e, h3, h4⟩ := h1
        cases s with
        | nil => simp at e
        | cons b' s' =>
          cases k with
          | zero => simp at e
          | succ k =>
            rw [List.take_succ_cons] at e
            cases e
            refine ⟨_, s', rfl, h3, ?_⟩
            rw [mat_app q p]
            exact ⟨k, by simp at hk; omega, h4, h2⟩
theorem seg_len : ∀ (p s : List UInt8), (∀ b ∈ p, b ≠ 42) → matL p s = true → s.length = p.length
  | [], s, _, h => by rw [mat_nil] at h; subst h; rfl
  | b :: p, s, hb, h => by
    rw [mat_byte (hb b (by simp))] at h
    obtain ⟨c, t, rfl, _, h2⟩ := h
    have := seg_len p t (fun x hx => hb x (by simp [hx])) h2
    simp [this]
theorem ar2 {k b : Nat} (h : b ≤ k) : b + (k - b) = k := by omega
structure MatSeg (P S : List UInt8) (i k a back : Nat) : Prop where
  lt : a < i
  le : back ≤ k
  eq : k - back = i - (a + 1)
  ns : ∀ b ∈ (P.drop (a + 1)).take (i - (a + 1)), b ≠ 42
  ok : matL ((P.drop (a + 1)).take (i - (a + 1))) ((S.drop back).take (k - back)) = true
  main : matL P S = true ↔ ∃ b, back ≤ b ∧ b ≤ S.length ∧ matL (P.drop (a + 1)) (S.drop b) = true
def MatInv (P S : List UInt8) (i k : Nat) (st : Option Nat) (back : Nat) : Prop :=
  i ≤ P.length ∧ k ≤ S.length ∧
  match st with
  | none => back = 0 ∧ (matL P S = true ↔ matL (P.drop i) (S.drop k) = true)
  | some a => MatSeg P S i k a back
theorem drop_at {P : List UInt8} {i : Nat} (h : i < P.length) : P.drop i = gB P i :: P.drop (i + 1) := by
  rw [List.drop_eq_getElem_cons h]; unfold gB; simp [List.getD, h]
theorem split_seg (P : List UInt8) {a i : Nat} (h : a + 1 ≤ i) : P.drop (a + 1) = (P.drop (a + 1)).take (i - (a + 1)) ++ P.drop i := by
  have e : P.drop i = (P.drop (a + 1)).drop (i - (a + 1)) := by rw [List.drop_drop]; congr 1; omega
  rw [e, List.take_append_drop]
theorem seg_at {P S : List UInt8} {a i b : Nat} (ha : a + 1 ≤ i) (hi : i ≤ P.length) (hb : b ≤ S.length) (hseg : ∀ c ∈ (P.drop (a + 1)).take (i - (a + 1)), c ≠ 42) (h : matL (P.drop (a + 1)) (S.drop b) = true) :
    b + (i - (a + 1)) ≤ S.length ∧ matL ((P.drop (a + 1)).take (i - (a + 1))) ((S.drop b).take (i - (a + 1))) = true ∧ matL (P.drop i) (S.drop (b + (i - (a + 1)))) = true := by
  rw [split_seg P ha, mat_app] at h
  obtain ⟨k, hk, h1, h2⟩ := h
  have hl := seg_len _ _ hseg h1
  rw [List.length_take, List.length_take, List.length_drop, List.length_drop] at hl
  rw [List.length_drop] at hk
  have hkk : k = i - (a + 1) := by omega
  subst hkk
  exact ⟨by omega, h1, by rw [List.drop_drop] at h2; exact h2⟩
theorem MatInv.start (P S : List UInt8) : MatInv P S 0 0 none 0 := ⟨Nat.zero_le _, Nat.zero_le _, rfl, Iff.rfl⟩
theorem MatInv.done {P S : List UInt8} {i back : Nat} {st : Option Nat} (h : MatInv P S i S.length st back) : matL P S = true ↔ matL (P.drop i) [] = true := by
  obtain ⟨h1, h2, h3⟩ := h
  cases st with
  | none => rw [h3.2, List.drop_length]
  | some a =>
    obtain ⟨g1, g2, g3, g4, g5, g6⟩ : MatSeg P S i S.length a back := h3
    rw [g6]
    constructor
    · rintro ⟨b, hb1, hb2, hm⟩
      obtain ⟨m1, m2, m3⟩ := seg_at (i := i) (by omega) h1 hb2 g4 hm
      have : b + (i - (a + 1)) = S.length := by omega
      rw [this, List.drop_length] at m3
      exact m3
    · intro hx
      refine ⟨back, Nat.le_refl _, by omega, ?_⟩
      rw [split_seg P (i := i) (by omega), mat_app]
      refine ⟨S.length - back, by rw [List.length_drop]; omega, g5, ?_⟩
      rw [List.drop_drop, ar2 g2, List.drop_length]
      exact hx
end Go.Proofs.YtlhhiiemojhjdaaDoor
set_option linter.unusedVariables false
set_option linter.unusedSimpArgs false
namespace Go.Proofs.YtlhhiiemojhjdaaDoor
open Go Go.RowKit
abbrev Txt := List UInt8
def JsonD.kind : JsonD → Int | .mk k _ _ _ => k
def JsonD.text : JsonD → Txt | .mk _ t _ _ => t
def JsonD.names : JsonD → List Txt | .mk _ _ n _ => n
def JsonD.kids : JsonD → List JsonD | .mk _ _ _ k => k
end Go.Proofs.YtlhhiiemojhjdaaDoor
set_option linter.unusedVariables false
namespace Go.Proofs.YtlhhiiemojhjdaaDoor
open Go Go.RowKit
def StrsAt (w : World) (A : Option Addr) (n : Nat) (ls : List (List UInt8)) : Prop :=
  n = ls.length ∧ (0 < n → ∃ ad, A = some ad ∧ ∀ i (h : i < ls.length), w.cell? (ad.add i) = some (.string ⟨(ls[i]).toArray⟩))
theorem StrsAt.q {w w' : World} {A : Option Addr} {n : Nat} {ls : List (List UInt8)} (h : StrsAt w A n ls) (hq : Q w w') : StrsAt w' A n ls :=
  ⟨h.1, fun h0 => let ⟨ad, e, hc⟩ := h.2 h0; ⟨ad, e, fun i hi => hq.cell (hc i hi)⟩⟩
def gL (ls : List (List UInt8)) (i : Nat) : List UInt8 := ls.getD i []
theorem StrsAt.at {w : World} {A : Option Addr} {n : Nat} {ls : List (List UInt8)} (h : StrsAt w A n ls) {i : Nat} (hi : i < n) :
    ∃ ad, A = some ad ∧ w.cell? (ad.add i) = some (.string ⟨(gL ls i).toArray⟩) := by
  obtain ⟨ad, e, hc⟩ := h.2 (by omega)
  have hi' : i < ls.length := by rw [← h.1]; exact hi
  exact ⟨ad, e, by rw [hc i hi']; simp [gL, List.getD, hi']⟩
def OwnS (e : TypeId) (w0 w : World) (v : Value) (us : List Value) : Prop := w.ownsRow w0.heap.size e 1 v us.length us
theorem OwnS.nil (e : TypeId) (w0 w : World) : OwnS e w0 w (.slice none 0 0) [] := ⟨rfl, .inl ⟨rfl, rfl⟩⟩
theorem OwnS.q {e : TypeId} {w0 w w' : World} {v : Value} {us : List Value} (h : OwnS e w0 w v us) (hq : Q w w') : OwnS e w0 w' v us := by
  have hg : w.grownBy w' none := ⟨hq.os, hq.tape, hq.output, hq.size, fun k hk _ => Below.block hq k hk⟩
  refine h.kept hg ?_
  rcases hv : v.ownBlock with _ | k
  · exact .inl rfl
  · exact .inr (by simp)
theorem OwnS.block {e : TypeId} {w0 w : World} {v : Value} {us : List Value} (h : OwnS e w0 w v us) {k : Nat} (hk : v.ownBlock = some k) : w0.heap.size ≤ k := by
  rcases h.2 with ⟨rfl, _⟩ | ⟨g, cap, cur, rfl, hb, _⟩
  · cases hk
  · simp [Value.ownBlock] at hk; omega
theorem OwnS.form {e : TypeId} {w0 w : World} {v : Value} {us : List Value} (h : OwnS e w0 w v us) :
    ∃ A cap, v = .slice A us.length cap ∧ us.length ≤ cap ∧ cap ≤ maxLen ∧ ∀ i (hi : i < us.length), ∃ ad, A = some ad ∧ w0.heap.size ≤ ad.block ∧ w.cell? (ad.add i) = some us[i] := by
  rcases h.2 with ⟨rfl, h0⟩ | ⟨g, cap, cur, rfl, hb, hh, hn, hm, hcs, ht⟩
  · exact ⟨none, 0, by rw [h0], by omega, by omega, fun i hi => by omega⟩
  · refine ⟨_, cap, rfl, hn, hm, fun i hi => ⟨_, rfl, hb, ?_⟩⟩
    have ea : (Addr.add ⟨g, 0, none⟩ i) = ⟨g, i, none⟩ := by unfold Addr.add; split <;> simp_all
    have hi' : i < cur.size := by omega
    rw [ea]
    simp only [World.cell?, hh, Option.isSome_none, Bool.false_eq_true, if_false]
    have : us[i]? = cur.toList[i]? := by rw [← ht, List.getElem?_take, if_pos (by omega)]
    rw [List.getElem?_eq_getElem hi] at this
    rw [this]; simp
def strV (l : List UInt8) : Value := .string ⟨l.toArray⟩
def BldAt (w0 w : World) (b : Nat) (l : List UInt8) : Prop := Lib.IsBuilder 70 5 w0.heap.size b (Lib.byteCells l) w
theorem infoBuilder : Builder.Extra Tryd.prog lays166_ren := {
  sizeBuilder := by kernel_rfl
  liesBuilder := by kernel_rfl
  t5 := Tryd.underlying5
  a5 := Tryd.isAgg5
  z5 := Tryd.sizeOf5
  v5 := Tryd.zeroValue5
  infoByte := by kernel_rfl
  cellsByte := by kernel_rfl
  sizeByte := by kernel_rfl
  neB5 := by decide }
theorem byteCells_append (a b : List UInt8) : Lib.byteCells (a ++ b) = Lib.byteCells a ++ Lib.byteCells b := by unfold Lib.byteCells; simp
theorem strCells_list (b : List UInt8) : Lib.strCells ⟨b.toArray⟩ = Lib.byteCells b := by unfold Lib.strCells Lib.byteCells; simp
theorem byteCells_length (a : List UInt8) : (Lib.byteCells a).length = a.length := by unfold Lib.byteCells; simp
theorem BldAt.q {w0 w w' : World} {b : Nat} {l : List UInt8} (h : BldAt w0 w b l) (hq : Q w w') : BldAt w0 w' b l := by
  have hg : w.grownBy w' none := ⟨hq.os, hq.tape, hq.output, hq.size, fun k hk _ => Below.block hq k hk⟩
  have go : ∀ p, Lib.BuilderAt 70 5 w0.heap.size b p (Lib.byteCells l) w → Lib.BuilderAt 70 5 w0.heap.size b p (Lib.byteCells l) w' := by
    rintro p ⟨h1, v, h2, h3, h4⟩
    refine ⟨h1, v, hq.block h2, h3.kept hg ?_, h4⟩
    rcases hv : v.ownBlock with _ | k
    · exact .inl rfl
    · exact .inr (by simp)
  rcases h with h | h
  · exact .inl (go _ h)
  · exact .inr (go _ h)
end Go.Proofs.YtlhhiiemojhjdaaDoor
set_option linter.unusedVariables false
namespace Go.Proofs.YtlhhiiemojhjdaaDoor
open Go Go.RowKit
theorem lt_of_heap {w : World} {g : Nat} {o : Obj} (h : w.heap[g]? = some o) : g < w.heap.size := by
  rcases Nat.lt_or_ge g w.heap.size with h1 | h1
  · exact h1
  · rw [Array.getElem?_eq_none h1] at h; cases h
theorem Q.setRow {a b : World} (h : Q a b) {g : Nat} (hg : a.heap.size ≤ g) (cs : Array Value) : Q a (b.setRow g cs) :=
  Q.below h ⟨rfl, rfl, rfl, by simp, fun k hk => by
    simp only [World.setRow, Array.getElem?_modify]
    rw [if_neg (by omega)]⟩
theorem add_off (g o n : Nat) : (⟨g, o, none⟩ : Addr).add n = ⟨g, o + n, none⟩ := by
  unfold Addr.add; split <;> simp_all
structure GX (S : List Nat) (w w' : World) : Prop where
  os : w'.os = w.os
  tape : w'.tape = w.tape
  output : w'.output = w.output
  size : w.heap.size ≤ w'.heap.size
  block : ∀ k, k < w.heap.size → k ∉ S → w'.heap[k]? = w.heap[k]?
theorem GX.refl (S : List Nat) (w : World) : GX S w w := ⟨rfl, rfl, rfl, Nat.le_refl _, fun _ _ _ => rfl⟩
theorem GX.trans {S : List Nat} {a b c : World} (h : GX S a b) (k : GX S b c) : GX S a c :=
  ⟨k.os.trans h.os, k.tape.trans h.tape, k.output.trans h.output, Nat.le_trans h.size k.size, fun i hi hr => (k.block i (Nat.lt_of_lt_of_le hi h.size) hr).trans (h.block i hi hr)⟩
theorem GX.mono {S S' : List Nat} {a b : World} (h : GX S a b) (hs : ∀ x ∈ S, x ∈ S') : GX S' a b :=
  ⟨h.os, h.tape, h.output, h.size, fun k hk hn => h.block k hk (fun hm => hn (hs k hm))⟩
theorem GX.gb {S : List Nat} {a b : World} {k : Nat} (h : a.grownBy b (some k)) (hk : k ∈ S) : GX S a b :=
  ⟨h.os, h.tape, h.output, h.size, fun i hi hn => h.block i hi (by intro e; injection e with e; exact hn (e ▸ hk))⟩
theorem GX.q {S : List Nat} {a b : World} (h : Q a b) : GX S a b := ⟨h.os, h.tape, h.output, h.size, fun k hk _ => Below.block h k hk⟩
theorem GX.drew {S : List Nat} {a b : World} (h : GX S a b) : GX S a b.drew := ⟨h.os, h.tape, h.output, h.size, h.block⟩
theorem GX.set {S : List Nat} {a b : World} (h : GX S a b) {g : Nat} (hg : g ∈ S) (i : Nat) (v : Value) : GX S a (b.setCell ⟨g, i, none⟩ v) :=
  ⟨h.os, h.tape, h.output, by simpa using h.size, fun k hk hr => by
    rw [heap_setCell_other b ⟨g, i, none⟩ k v (by intro e; exact hr (by rw [e]; exact hg))]; exact h.block k hk hr⟩
theorem GX.setRow {S : List Nat} {a b : World} (h : GX S a b) {g : Nat} (hg : g ∈ S) (cs : Array Value) : GX S a (b.setRow g cs) :=
  ⟨h.os, h.tape, h.output, by simpa [World.setRow] using h.size, fun k hk hr => by
    simp only [World.setRow, Array.getElem?_modify]
    rw [if_neg (by intro e; exact hr (by rw [← e]; exact hg))]
    exact h.block k hk hr⟩
theorem GX.toQ {S : List Nat} {w a b : World} (h : GX S a b) (hq : Q w a) (hn : ∀ k ∈ S, w.heap.size ≤ k) : Q w b :=
  Q.below hq ⟨h.os, h.tape, h.output, by have := h.size; have := hq.size; omega, fun k hk => h.block k (Nat.lt_of_lt_of_le hk hq.size) (fun hm => by have := hn k hm; omega)⟩
theorem GX.heap {S : List Nat} {a b : World} (h : GX S a b) {k : Nat} {o : Obj} (hk : k ∉ S) (ho : a.heap[k]? = some o) : b.heap[k]? = some o :=
  (h.block k (lt_of_heap ho) hk).trans ho
end Go.Proofs.YtlhhiiemojhjdaaDoor
