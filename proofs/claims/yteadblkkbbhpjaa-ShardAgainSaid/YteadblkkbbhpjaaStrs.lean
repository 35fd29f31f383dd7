/- A slice of strings as a list of texts; a strings.Builder as the bytes that it holds. -/
import Derived.Test.YteadblkkbbhpjaaBase
import Derived.Test.YteadblkkbbhpjaaShelf
set_option linter.unusedVariables false
namespace Go.Proofs.Yteadblkkbbhpjaa
open Go Go.RowKit

/-- The slice holds these texts. -/
def StrsAt (w : World) (A : Option Addr) (n : Nat) (ls : List (List UInt8)) : Prop :=
  n = ls.length ∧ (0 < n → ∃ ad, A = some ad ∧ ∀ i (h : i < ls.length), w.cell? (ad.add i) = some (.string ⟨(ls[i]).toArray⟩))
theorem StrsAt.q {w w' : World} {A : Option Addr} {n : Nat} {ls : List (List UInt8)} (h : StrsAt w A n ls) (hq : Q w w') : StrsAt w' A n ls :=
  ⟨h.1, fun h0 => let ⟨ad, e, hc⟩ := h.2 h0; ⟨ad, e, fun i hi => hq.cell (hc i hi)⟩⟩
/-- The text at a place. -/
def gL (ls : List (List UInt8)) (i : Nat) : List UInt8 := ls.getD i []
theorem StrsAt.at {w : World} {A : Option Addr} {n : Nat} {ls : List (List UInt8)} (h : StrsAt w A n ls) {i : Nat} (hi : i < n) :
    ∃ ad, A = some ad ∧ w.cell? (ad.add i) = some (.string ⟨(gL ls i).toArray⟩) := by
  obtain ⟨ad, e, hc⟩ := h.2 (by omega)
  have hi' : i < ls.length := by rw [← h.1]; exact hi
  exact ⟨ad, e, by rw [hc i hi']; simp [gL, List.getD, hi']⟩

/-- The row of a type whose values are one cell: its zero value, its bytes. -/
structure OneCell (P : Program) (t e : TypeId) (z : Value) (bytes : Nat) : Prop where
  under : P.underlying t = some (.slice e)
  info : (P.info? e).map (fun i => (i.zero, i.size, i.bytes)) = some (some z, 1, bytes)
  zsize : z.cells.size = 1
/-- A slice that the call has made since w0, of one-cell elements: it holds these. -/
def OwnS (e : TypeId) (w0 w : World) (v : Value) (us : List Value) : Prop := w.ownsRow w0.heap.size e 1 v us.length us
theorem OwnS.nil (e : TypeId) (w0 w : World) : OwnS e w0 w (.slice none 0 0) [] := ⟨rfl, .inl ⟨rfl, rfl⟩⟩
theorem OwnS.q {e : TypeId} {w0 w w' : World} {v : Value} {us : List Value} (h : OwnS e w0 w v us) (hq : Q w w') : OwnS e w0 w' v us := by
  have hg : w.grownBy w' none := ⟨hq.os, hq.tape, hq.output, hq.size, fun k hk _ => Below.block hq k hk⟩
  refine h.kept hg ?_
  rcases hv : v.ownBlock with _ | k
  · exact .inl rfl
  · exact .inr (by simp)
theorem OwnS.block {e : TypeId} {w0 w : World} {v : Value} {us : List Value} (h : OwnS e w0 w v us) {k : Nat} (hk : v.ownBlock = some k) : w0.heap.size ≤ k := by
  rcases h.2 with ⟨rfl, _⟩ | ⟨g, cap, cur, rfl, hb, _⟩
  · cases hk
  · simp [Value.ownBlock] at hk; omega
/-- append of one element to such a slice. -/
theorem wpList_append_one {P : Program} {ops : Array Oper} {rest : List Oper} {o : Oper} {a : Act} {R : Exit → Act → World → Prop} (hgd : o.guard = none) (s x : Operand) (t e : TypeId) (z : Value) (bytes : Nat) (hc : OneCell P t e z bytes)
    (ho : o.op = .call { callee := .builtin .append, args := #[s, x], argTypes := #[t, t] })
    (w0 W : World) (v u : Value) (us : List Value) (hs : a.eval s = v) (hown : OwnS e w0 W v us) (hx : a.eval x = .slice (some ⟨W.heap.size, 0, none⟩) 1 1) (h1 : u.oneCell' = true) (hw0 : w0.heap.size ≤ W.heap.size)
    (hl : us.length + 1 ≤ maxLen) (hbytes : (us.length + 1) * bytes ≤ 140737488355328)
    (h : ∀ v' w', OwnS e w0 w' v' (us ++ [u]) → Below w0.heap.size W w' → wpList P ops R rest (a.put o.dst v') w') : wpList P ops R (o :: rest) a (W.alloc (.cells #[u] e)) := by
  obtain ⟨i, hi, hz, hsz, hby⟩ := info_parts hc.info
  refine wpList_append_own (w := W.alloc (.cells #[u] e)) hgd s x t ho w0.heap.size e i z 1 bytes hc.under hi hz hsz hby hc.zsize (by decide) v us.length us hs (World.ownsRow.alloc hown _) ⟨W.heap.size, 0, none⟩ 1 1 [u] hx rfl ?_ (by simpa using h1) hl hbytes (by simp; omega) ?_
  · intro j y hj
    rcases j with _ | j
    · simp at hj; subst hj
      have e2 : (W.alloc (.cells #[u] e)).heap[W.heap.size]? = some (.cells #[u] e) := (MapKept.heap_alloc W _).1
      have ea : (Addr.add ⟨W.heap.size, 0, none⟩ 0) = ⟨W.heap.size, 0, none⟩ := rfl
      rw [ea]
      unfold World.cell?
      rw [e2]
      rfl
    · simp at hj
  · intro v' w' h2 hg _
    refine h v' w' (by unfold OwnS; simpa using h2) ?_
    exact ((Below.refl _ _).alloc hw0 _).grown hg (by simp; omega) fun k hk => hown.block hk
theorem OwnS.form {e : TypeId} {w0 w : World} {v : Value} {us : List Value} (h : OwnS e w0 w v us) :
    ∃ A cap, v = .slice A us.length cap ∧ us.length ≤ cap ∧ cap ≤ maxLen ∧ ∀ i (hi : i < us.length), ∃ ad, A = some ad ∧ w0.heap.size ≤ ad.block ∧ w.cell? (ad.add i) = some us[i] := by
  rcases h.2 with ⟨rfl, h0⟩ | ⟨g, cap, cur, rfl, hb, hh, hn, hm, hcs, ht⟩
  · exact ⟨none, 0, by rw [h0], by omega, by omega, fun i hi => by omega⟩
  · refine ⟨_, cap, rfl, hn, hm, fun i hi => ⟨_, rfl, hb, ?_⟩⟩
    have ea : (Addr.add ⟨g, 0, none⟩ i) = ⟨g, i, none⟩ := by unfold Addr.add; split <;> simp_all
    have hi' : i < cur.size := by omega
    rw [ea]
    simp only [World.cell?, hh, Option.isSome_none, Bool.false_eq_true, if_false]
    have : us[i]? = cur.toList[i]? := by rw [← ht, List.getElem?_take, if_pos (by omega)]
    rw [List.getElem?_eq_getElem hi] at this
    rw [this]; simp
def strV (l : List UInt8) : Value := .string ⟨l.toArray⟩
theorem OwnS.strs {e : TypeId} {w0 w : World} {v : Value} {ls : List (List UInt8)} (h : OwnS e w0 w v (ls.map strV)) :
    ∃ A cap, v = .slice A ls.length cap ∧ ls.length ≤ cap ∧ cap ≤ maxLen ∧ StrsAt w A ls.length ls := by
  obtain ⟨A, cap, hv, h1, h2, h3⟩ := h.form
  simp only [List.length_map] at hv h1 h3
  refine ⟨A, cap, hv, h1, h2, rfl, fun h0 => ?_⟩
  obtain ⟨ad, rfl, _, _⟩ := h3 0 h0
  refine ⟨ad, rfl, fun i hi => ?_⟩
  obtain ⟨ad', e1, _, hc⟩ := h3 i hi
  cases e1
  simpa [strV] using hc
theorem StrsAt_new (W : World) (e : TypeId) (ls : List (List UInt8)) : StrsAt (W.alloc (.cells (ls.map strV).toArray e)) (some ⟨W.heap.size, 0, none⟩) ls.length ls := by
  refine ⟨rfl, fun _ => ⟨_, rfl, fun i hi => ?_⟩⟩
  have ea : (Addr.add ⟨W.heap.size, 0, none⟩ i) = ⟨W.heap.size, i, none⟩ := by unfold Addr.add; split <;> simp_all
  have e2 : (W.alloc (.cells (ls.map strV).toArray e)).heap[W.heap.size]? = some (.cells (ls.map strV).toArray e) := (MapKept.heap_alloc W _).1
  rw [ea]
  unfold World.cell?
  rw [e2]
  simp [strV, hi]
theorem oneStr : OneCell Try.prog 45 9 (.string ⟨#[]⟩) 16 := ⟨Try.underlying45, by kernel_rfl, rfl⟩

/-- A Builder in block b, laid since w0: it holds these bytes. -/
def BldAt (w0 w : World) (b : Nat) (l : List UInt8) : Prop := Lib.IsBuilder 56 5 w0.heap.size b (Lib.byteCells l) w
theorem infoBuilder : Builder.Extra Try.prog lays166_ren := {
  sizeBuilder := by kernel_rfl
  liesBuilder := by kernel_rfl
  t5 := Try.underlying5
  a5 := Try.isAgg5
  z5 := Try.sizeOf5
  v5 := Try.zeroValue5
  infoByte := by kernel_rfl
  cellsByte := by kernel_rfl
  sizeByte := by kernel_rfl
  neB5 := by decide }
theorem byteCells_append (a b : List UInt8) : Lib.byteCells (a ++ b) = Lib.byteCells a ++ Lib.byteCells b := by unfold Lib.byteCells; simp
theorem strCells_list (b : List UInt8) : Lib.strCells ⟨b.toArray⟩ = Lib.byteCells b := by unfold Lib.strCells Lib.byteCells; simp
theorem byteCells_length (a : List UInt8) : (Lib.byteCells a).length = a.length := by unfold Lib.byteCells; simp

theorem BldAt.q {w0 w w' : World} {b : Nat} {l : List UInt8} (h : BldAt w0 w b l) (hq : Q w w') : BldAt w0 w' b l := by
  have hg : w.grownBy w' none := ⟨hq.os, hq.tape, hq.output, hq.size, fun k hk _ => Below.block hq k hk⟩
  have go : ∀ p, Lib.BuilderAt 56 5 w0.heap.size b p (Lib.byteCells l) w → Lib.BuilderAt 56 5 w0.heap.size b p (Lib.byteCells l) w' := by
    rintro p ⟨h1, v, h2, h3, h4⟩
    refine ⟨h1, v, hq.block h2, h3.kept hg ?_, h4⟩
    rcases hv : v.ownBlock with _ | k
    · exact .inl rfl
    · exact .inr (by simp)
  rcases h with h | h
  · exact .inl (go _ h)
  · exact .inr (go _ h)
theorem bldWrite {w0 : World} (b : Nat) (l s : List UInt8) (w : World) (h : BldAt w0 w b l) (hq : w0.heap.size ≤ w.heap.size) (hl : l.length + s.length ≤ 140737488355328) :
    Calls Try.prog 42 #[.pointer (some ⟨b, 0, none⟩), .string ⟨s.toArray⟩] w fun e w' => e = .returned (.tuple #[.int .i64 s.length, .nilIface]) ∧ BldAt w0 w' b (l ++ s) ∧ Below w0.heap.size w w' :=
  (Any.Builder_WriteString lays166 infoBuilder w0.heap.size b (Lib.byteCells l) ⟨s.toArray⟩ w h (by rw [byteCells_length]; exact hl) hq).mono fun e w' ⟨h1, h2, h3⟩ =>
    ⟨h1, .inr (by rw [byteCells_append, ← strCells_list s]; exact h2), h3⟩
theorem bldString {w0 : World} (b : Nat) (l : List UInt8) (w : World) (h : BldAt w0 w b l) (hq : w0.heap.size ≤ w.heap.size) :
    Calls Try.prog 45 #[.pointer (some ⟨b, 0, none⟩)] w fun e w' => e = .returned (.string ⟨l.toArray⟩) ∧ Below w0.heap.size w w' :=
  Try.Builder_String_any w0.heap.size b l w h hq
theorem bldNew (w0 w : World) (hq : w0.heap.size ≤ w.heap.size) : BldAt w0 (w.alloc (.cells #[.pointer none, .slice none 0 0] 56)) w.heap.size [] :=
  .inl ⟨hq, .slice none 0 0, (MapKept.heap_alloc w _).1, ⟨by simp [Lib.byteCells], .inl ⟨rfl, rfl⟩⟩, by simp [Value.ownBlock]⟩
end Go.Proofs.Yteadblkkbbhpjaa
