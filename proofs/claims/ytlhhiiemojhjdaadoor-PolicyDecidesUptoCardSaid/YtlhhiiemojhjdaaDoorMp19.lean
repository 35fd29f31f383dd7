/- Texts of this proof, laid into one: PoK, KdA, KdB, KdC, KdD, KdE. -/
import Derived.Test.YtlhhiiemojhjdaaDoorMp18
/- Policies: plain, and statements in memory of the call's own. -/
set_option linter.unusedVariables false
set_option linter.unusedSimpArgs false
namespace Go.Proofs.YtlhhiiemojhjdaaDoor
open Go Go.RowKit
/-- The values that are to be statements. -/
def allL (l : JsonD) : List JsonD := if l.kind = 6 then l.kids else [l]
theorem stmts_one {l : JsonD} (h : ¬ l.kind = 7) : stmtsJ [l] = none := by
  have h1 : stmtJ l = none := by
    obtain ⟨k, t, ns, ks⟩ := l
    exact stmt_no k t ns ks (only_kind h)
  rw [stmtsJ, h1]
def threeN : List Txt := [nVersion, nId, nStatement]
theorem policy_eq (k : Int) (t : Txt) (ns : List Txt) (ks : List JsonD) (h : onlyJ (.mk k t ns ks) threeN = true) :
    policyJ (.mk k t ns ks) = if isTextJ ((ns.zip ks).lookup nVersion) false [nDate] && isTextJ ((ns.zip ks).lookup nId) false [] then
      (if 1 ≤ (allL (orJ ((ns.zip ks).lookup nStatement))).length ∧ (allL (orJ ((ns.zip ks).lookup nStatement))).length ≤ 10 then stmtsJ (allL (orJ ((ns.zip ks).lookup nStatement))) else none) else none := by
  unfold policyJ
  have h' : onlyJ (.mk k t ns ks) [nVersion, nId, nStatement] = true := h
  rw [h', Bool.true_and]
  show (if (isTextJ ((ns.zip ks).lookup nVersion) false [nDate] && isTextJ ((ns.zip ks).lookup nId) false []) = true then (if 1 ≤ (allJ ((ns.zip ks).lookup nStatement)).length ∧ (allJ ((ns.zip ks).lookup nStatement)).length ≤ 10 then stmtsJ (allJ ((ns.zip ks).lookup nStatement)) else none) else none) = _
  by_cases hR : (isTextJ ((ns.zip ks).lookup nVersion) false [nDate] && isTextJ ((ns.zip ks).lookup nId) false []) = true
  · rw [if_pos hR, if_pos hR]
    cases hl : (ns.zip ks).lookup nStatement with
    | none =>
      have e1 : allJ none = [] := rfl
      have e2 : allL (orJ none) = [zeroJ] := rfl
      rw [e1, e2, if_neg (by simp), if_pos (by simp), stmts_one (by decide)]
    | some l =>
      have e2 : allL (orJ (some l)) = if l.kind = 6 then l.kids else [l] := rfl
      have e1 : allJ (some l) = if l.kind = 6 then l.kids else if l.kind = 7 then [l] else [] := rfl
      rw [e1, e2]
      by_cases h6 : l.kind = 6
      · rw [if_pos h6, if_pos h6]
      · rw [if_neg h6, if_neg h6]
        by_cases h7 : l.kind = 7
        · rw [if_pos h7]
        · rw [if_neg h7, if_neg (by simp), if_pos (by simp), stmts_one h7]
  · rw [if_neg hR, if_neg hR]
theorem policy_no (k : Int) (t : Txt) (ns : List Txt) (ks : List JsonD) (h : onlyJ (.mk k t ns ks) threeN = false) : policyJ (.mk k t ns ks) = none := by
  unfold policyJ
  have h' : onlyJ (.mk k t ns ks) [nVersion, nId, nStatement] = false := h
  rw [h']; rfl
theorem stmts_snoc (l : List JsonD) (j : JsonD) {a : List StmtD} {s : StmtD} (h1 : stmtsJ l = some a) (h2 : stmtJ j = some s) : stmtsJ (l ++ [j]) = some (a ++ [s]) := by
  induction l generalizing a with
  | nil =>
    rw [stmtsJ] at h1; injection h1 with h1; subst h1
    rw [List.nil_append, stmtsJ, h2]; rfl
  | cons x r ih =>
    rw [stmtsJ] at h1
    rw [List.cons_append, stmtsJ]
    cases hx : stmtJ x with
    | none => rw [hx] at h1; cases h1
    | some y =>
      rw [hx] at h1
      cases hr : stmtsJ r with
      | none => rw [hr] at h1; cases h1
      | some b =>
        rw [hr] at h1
        simp only at h1
        injection h1 with h1; subst h1
        simp only
        rw [ih hr]; rfl
theorem stmts_no (l r : List JsonD) (j : JsonD) (h : stmtJ j = none) : stmtsJ (l ++ j :: r) = none := by
  induction l with
  | nil => rw [List.nil_append, stmtsJ, h]
  | cons x l ih =>
    rw [List.cons_append, stmtsJ, ih]
    cases stmtJ x <;> rfl
/-- What a text is as a policy; what was wrong: json's error and its place, or that it is none. -/
def polR (s : Txt) : Except (Option (Int × Int)) (List StmtD) :=
  match parseJ s with
  | .error (c, a) => .error (some ((c : Int), (a : Int)))
  | .ok v => match policyJ v with
    | none => .error none
    | some l => .ok l
/-- Texts in a row of the call's own. -/
def OwnT (base : Nat) (w : World) (v : Value) (ls : List Txt) : Prop := w.ownsRow base 9 1 v ls.length (ls.map strV)
/-- Statements' cells. -/
def StK (base : Nat) (w : World) : List StmtD → List Value → Prop
  | [], cells => cells = []
  | s :: r, cells => ∃ va vb vc rest, cells = stmC s va vb vc ++ rest ∧ OwnT base w va s.who ∧ OwnT base w vb s.acts ∧ OwnT base w vc s.ress ∧ StK base w r rest
/-- Statements in a row of the call's own. -/
def StO (base : Nat) (w : World) (v : Value) (l : List StmtD) : Prop := ∃ cells, w.ownsRow base 25 4 v l.length cells ∧ StK base w l cells
/-- Rows of texts stay. -/
def StayT (w w' : World) : Prop := ∀ (b : Nat) (cs : Array Value), w.heap[b]? = some (.cells cs 9 (0, 0)) → w'.heap[b]? = w.heap[b]?
theorem OwnT.stay {base : Nat} {w w' : World} {v : Value} {ls : List Txt} (h : OwnT base w v ls) (hs : StayT w w') : OwnT base w' v ls := by
  refine ownsRow_frame h (fun b hb _ => ?_)
  rcases h.2 with ⟨hv, _⟩ | ⟨g, cap, cur, hv, _, hh, _⟩
  · rw [hv] at hb; cases hb
  · have : g = b := by rw [hv] at hb; simpa [Value.ownBlock] using hb
    subst this
    exact hs _ _ hh
theorem StK.stay {base : Nat} {w w' : World} (hs : StayT w w') : ∀ {l : List StmtD} {cells : List Value}, StK base w l cells → StK base w' l cells
  | [], cells, h => h
  | s :: r, cells, h => by
    obtain ⟨va, vb, vc, rest, e, h1, h2, h3, h4⟩ := h
    exact ⟨va, vb, vc, rest, e, h1.stay hs, h2.stay hs, h3.stay hs, StK.stay hs h4⟩
theorem StK.low {base base' : Nat} {w : World} (hb : base' ≤ base) : ∀ {l : List StmtD} {cells : List Value}, StK base w l cells → StK base' w l cells
  | [], cells, h => h
  | s :: r, cells, h => by
    obtain ⟨va, vb, vc, rest, e, h1, h2, h3, h4⟩ := h
    exact ⟨va, vb, vc, rest, e, ownsRow_low h1 hb, ownsRow_low h2 hb, ownsRow_low h3 hb, StK.low hb h4⟩
theorem StK.snoc {base : Nat} {w : World} {s : StmtD} {va vb vc : Value} (h1 : OwnT base w va s.who) (h2 : OwnT base w vb s.acts) (h3 : OwnT base w vc s.ress) : ∀ {l : List StmtD} {cells : List Value}, StK base w l cells → StK base w (l ++ [s]) (cells ++ stmC s va vb vc)
  | [], cells, h => by
    have h : cells = [] := h
    subst h
    exact ⟨va, vb, vc, [], by simp, h1, h2, h3, rfl⟩
  | x :: r, cells, h => by
    obtain ⟨ua, ub, uc, rest, e, g1, g2, g3, g4⟩ := h
    exact ⟨ua, ub, uc, rest ++ stmC s va vb vc, by rw [e, List.append_assoc], g1, g2, g3, StK.snoc h1 h2 h3 g4⟩
theorem StayT.q {w w' : World} (hq : Q w w') : StayT w w' := fun b cs h => by rw [hq.block h, h]
theorem StO.q {base : Nat} {w w' : World} {v : Value} {l : List StmtD} (h : StO base w v l) (hq : Q w w') : StO base w' v l := by
  obtain ⟨cells, h1, h2⟩ := h
  exact ⟨cells, ownsRow_frame h1 (fun b _ hb => Below.block hq b hb), h2.stay (StayT.q hq)⟩
theorem StO.low {base base' : Nat} {w : World} {v : Value} {l : List StmtD} (h : StO base w v l) (hb : base' ≤ base) : StO base' w v l := by
  obtain ⟨cells, h1, h2⟩ := h
  exact ⟨cells, ownsRow_low h1 hb, h2.low hb⟩
theorem StO.nil (base : Nat) (w : World) : StO base w (.slice none 0 0) [] := ⟨[], World.ownsRow_nil _ _ _ _, rfl⟩
/-- The append changes its own row alone. -/
theorem stay_grown {base : Nat} {w w' : World} {v : Value} {n : Nat} {cells : List Value} (h : w.ownsRow base 25 4 v n cells) (hg : w.grownBy w' v.ownBlock) : StayT w w' := fun b cs hb => by
  refine hg.block b (lt_of_heap hb) (fun e => ?_)
  rcases h.2 with ⟨hv, _⟩ | ⟨g, cap, cur, hv, _, hh, _⟩
  · rw [hv] at e; cases e
  · have : b = g := by rw [hv] at e; simpa [Value.ownBlock] using e
    subst this
    rw [hb] at hh; injection hh with hh; injection hh with _ hh _; cases hh
theorem StmtK_len {base : Nat} {w : World} : ∀ {l : List StmtD} {cells : List Value}, StK base w l cells → cells.length = l.length * 4
  | [], cells, h => by have h : cells = [] := h; rw [h]; rfl
  | s :: r, cells, h => by
    obtain ⟨va, vb, vc, rest, e, _, _, _, h4⟩ := h
    rw [e, List.length_append, StmtK_len h4, List.length_cons]
    show 4 + _ = _; omega
theorem StO.push {base : Nat} {w w' : World} {v v' : Value} {l : List StmtD} {cells : List Value} {s : StmtD} {va vb vc : Value} (h1 : w.ownsRow base 25 4 v l.length cells) (h2 : StK base w l cells) (hg : w.grownBy w' v.ownBlock) (ho : w'.ownsRow base 25 4 v' (l.length + 1) (cells ++ stmC s va vb vc))
    (a1 : OwnT base w va s.who) (a2 : OwnT base w vb s.acts) (a3 : OwnT base w vc s.ress) : StO base w' v' (l ++ [s]) := by
  have hs := stay_grown h1 hg
  exact ⟨cells ++ stmC s va vb vc, by rw [List.length_append]; exact ho, (h2.stay hs).snoc (a1.stay hs) (a2.stay hs) (a3.stay hs)⟩
theorem OwnT.ns {base : Nat} {w : World} {v : Value} {ls : List Txt} (h : OwnT base w v ls) : NsV w v ls := by
  obtain ⟨A, c, e1, e2, e3, e4⟩ := row_cells h (by simp)
  refine ⟨A, c, e1, e2, Nat.le_trans e3 (by decide), fun h0 => ?_⟩
  obtain ⟨g, rfl, hc⟩ := e4 h0
  refine ⟨g, 0, rfl, fun i hi => hc i _ ?_⟩
  simp [strV, gL, List.getD, hi]
theorem StK.at {base : Nat} {w : World} : ∀ {l : List StmtD} {cells : List Value}, StK base w l cells → ∀ {i : Nat}, i < l.length → ∃ va vb vc, OwnT base w va (gSt l i).who ∧ OwnT base w vb (gSt l i).acts ∧ OwnT base w vc (gSt l i).ress ∧ ∀ m u, (stmC (gSt l i) va vb vc)[m]? = some u → cells[i * 4 + m]? = some u
  | [], cells, h, i, hi => absurd hi (by simp)
  | s :: r, cells, h, i, hi => by
    obtain ⟨va, vb, vc, rest, e, h1, h2, h3, h4⟩ := h
    cases i with
    | zero =>
      refine ⟨va, vb, vc, h1, h2, h3, fun m u hu => ?_⟩
      have hu : (stmC s va vb vc)[m]? = some u := hu
      have hm := (List.getElem?_eq_some_iff.1 hu).1
      rw [e, Nat.zero_mul, Nat.zero_add, List.getElem?_append_left hm]; exact hu
    | succ i =>
      obtain ⟨ua, ub, uc, g1, g2, g3, g4⟩ := StK.at h4 (i := i) (by simpa using hi)
      refine ⟨ua, ub, uc, g1, g2, g3, fun m u hu => ?_⟩
      have hl : (stmC s va vb vc).length = 4 := rfl
      rw [e, List.getElem?_append_right (by rw [hl]; omega)]
      have : (i + 1) * 4 + m - (stmC s va vb vc).length = i * 4 + m := by rw [hl]; omega
      rw [this]; exact g4 m u hu
theorem StO.read {base : Nat} {w : World} {v : Value} {l : List StmtD} (h : StO base w v l) : StsV w v l := by
  obtain ⟨cells, h1, h2⟩ := h
  obtain ⟨A, c, e1, e2, e3, e4⟩ := row_cells h1 h1.1
  refine ⟨A, c, e1, e2, Nat.le_trans e3 (by decide), fun i hi => ?_⟩
  obtain ⟨g, rfl, hc⟩ := e4 (by omega)
  obtain ⟨va, vb, vc, g1, g2, g3, g4⟩ := h2.at hi
  refine ⟨g, 0, va, vb, vc, rfl, ⟨g1.ns, g2.ns, g3.ns⟩, hc _ _ (g4 0 _ rfl), ?_, ?_, ?_⟩
  · have := hc _ _ (g4 1 _ rfl); rw [← Nat.add_assoc] at this; exact this
  · have := hc _ _ (g4 2 _ rfl); rw [← Nat.add_assoc] at this; exact this
  · have := hc _ _ (g4 3 _ rfl); rw [← Nat.add_assoc] at this; exact this
end Go.Proofs.YtlhhiiemojhjdaaDoor
/- The writer: its builder lies in a struct of its own. -/
set_option linter.unusedVariables false
set_option linter.unusedSimpArgs false
namespace Go.Proofs.YtlhhiiemojhjdaaDoor
open Go Go.RowKit
/-- A writer in block b: its bytes lie at or behind B. -/
def WO (B b : Nat) (l : Txt) (w : World) : Prop := b < B ∧ ∃ p v, w.heap[b]? = some (.cells #[p, v] 72 (0, 0)) ∧ (p = .pointer none ∨ p = .pointer (some ⟨b, 0, none⟩)) ∧ w.ownsRow B 5 1 v l.length (l.map u8V)
/-- What a write leaves as it was. -/
structure KW (B b : Nat) (w w' : World) : Prop where
  os : w'.os = w.os
  tape : w'.tape = w.tape
  output : w'.output = w.output
  size : w.heap.size ≤ w'.heap.size
  block : ∀ k o, w.heap[k]? = some o → k ≠ b → (k < B ∨ ∀ c fz, o ≠ .cells c 5 fz) → w'.heap[k]? = some o
theorem KW.refl (B b : Nat) (w : World) : KW B b w w := ⟨rfl, rfl, rfl, Nat.le_refl _, fun _ _ h _ _ => h⟩
theorem KW.trans {B b : Nat} {x y z : World} (h : KW B b x y) (k : KW B b y z) : KW B b x z :=
  ⟨k.os.trans h.os, k.tape.trans h.tape, k.output.trans h.output, Nat.le_trans h.size k.size, fun i o h1 h2 h3 => k.block i o (h.block i o h1 h2 h3) h2 h3⟩
theorem KW.q {B b : Nat} {w w' : World} (h : Q w w') : KW B b w w' := ⟨h.os, h.tape, h.output, h.size, fun k o h1 _ _ => h.block h1⟩
theorem KW.toQ {B b : Nat} {w0 w w' : World} (h : KW B b w w') (hq : Q w0 w) (hb : w0.heap.size ≤ b) (hB : w0.heap.size ≤ B) : Q w0 w' :=
  Q.below hq ⟨h.os, h.tape, h.output, by have := hq.size; have := h.size; omega, fun k hk => by
    have hk2 : k < w.heap.size := Nat.lt_of_lt_of_le hk hq.size
    have e : w.heap[k]? = some w.heap[k] := by simp [hk2]
    rw [h.block k _ e (by omega) (.inl (by omega)), e]⟩
theorem KW.of_gb {B b : Nat} {w w' : World} {row : Option Nat} (h : w.grownBy w' row) (hr : ∀ k, row = some k → k = b ∨ (B ≤ k ∧ ∃ c fz, w.heap[k]? = some (.cells c 5 fz))) : KW B b w w' :=
  ⟨h.os, h.tape, h.output, h.size, fun k o h1 h2 h3 => by
    rw [h.block k (lt_of_heap h1) (fun e => ?_)]; exact h1
    rcases hr k e.symm with h4 | ⟨h4, c, fz, h5⟩
    · exact h2 h4
    · rcases h3 with h3 | h3
      · omega
      · rw [h1] at h5; injection h5 with h5; exact h3 c fz h5⟩
theorem WO.grown {B b : Nat} {l : Txt} {w w' : World} {row : Option Nat} (h : WO B b l w) (hg : w.grownBy w' row) (hr : ∀ r o, row = some r → w.heap[r]? = some o → (∀ c fz, o ≠ .cells c 5 fz) ∧ r ≠ b) : WO B b l w' := by
  obtain ⟨h1, p, v, h2, h3, h4⟩ := h
  refine ⟨h1, p, v, (hg.block b (lt_of_heap h2) (fun e => (hr b _ e.symm h2).2 rfl)).trans h2, h3, World.ownsRow.kept h4 hg ?_⟩
  rcases h4.2 with ⟨rfl, _⟩ | ⟨g, cap, cur, rfl, e1, e2, _⟩
  · exact .inl rfl
  · refine .inr fun e => ?_
    exact (hr g _ e.symm e2).1 _ _ rfl
theorem WO.q {B b : Nat} {l : Txt} {w w' : World} (h : WO B b l w) (hq : Q w w') : WO B b l w' :=
  h.grown (row := none) ⟨hq.os, hq.tape, hq.output, hq.size, fun k hk _ => Below.block hq k hk⟩ (fun _ _ e => by cases e)
theorem WO.lt {B b : Nat} {l : Txt} {w : World} (h : WO B b l w) : b < B ∧ b < w.heap.size := by
  obtain ⟨h1, p, v, h2, _⟩ := h; exact ⟨h1, lt_of_heap h2⟩
theorem info_bld : (Tryd.prog.info? 70).map (·.size) = some 2 := by kernel_rfl
theorem lies_wr : liesAt Tryd.prog Tryd.prog.depth 72 (2 / Tryd.prog.cellsOf 72) 0 70 1 = true := by kernel_rfl
set_option maxRecDepth 100000 in
theorem copyCheck_wo (B b : Nat) (l : Txt) (w : World) (h : WO B b l w) :
    Calls Tryd.prog 114 #[.pointer (some ⟨b, 0, none⟩)] w fun e w' => e = .returned (.tuple #[]) ∧ (∃ v, w'.heap[b]? = some (.cells #[.pointer (some ⟨b, 0, none⟩), v] 72 (0, 0)) ∧ w'.ownsRow B 5 1 v l.length (l.map u8V)) ∧ w.grownBy w' (some b) ∧ w'.heap.size = w.heap.size := by
  obtain ⟨h1, p, v, h2, h3, h4⟩ := h
  have c0 : w.cell? ⟨b, 0, none⟩ = some p := by rw [cell_of_row _ _ _ _ _ _ h2]; rfl
  rcases h3 with rfl | rfl
  · have f0 : w.frozen? ⟨b, 0, none⟩ = false := frozen_of_row w b 0 _ _ h2
    have hsh : w.shape? b = some (72, 2) := by unfold World.shape?; rw [h2]; rfl
    obtain ⟨j, hj, hjs⟩ := Option.map_eq_some_iff.1 info_bld
    have HX : Hid ((∃ v, (w.setCell ⟨b, 0, none⟩ (.pointer (some ⟨b, 0, none⟩))).heap[b]? = some (.cells #[.pointer (some ⟨b, 0, none⟩), v] 72 (0, 0)) ∧ (w.setCell ⟨b, 0, none⟩ (.pointer (some ⟨b, 0, none⟩))).ownsRow B 5 1 v l.length (l.map u8V)) ∧ w.grownBy (w.setCell ⟨b, 0, none⟩ (.pointer (some ⟨b, 0, none⟩))) (some b) ∧ (w.setCell ⟨b, 0, none⟩ (.pointer (some ⟨b, 0, none⟩))).heap.size = w.heap.size) := Lib.hid (by
      refine ⟨⟨v, by rw [heap_setCell_any w b 0 _ _ _ _ h2]; rfl, ?_⟩, gb_set (b := w) ⟨rfl, rfl, rfl, Nat.le_refl _, fun _ _ _ => rfl⟩ 0 _, by simp [World.setCell]⟩
      refine World.ownsRow.kept h4 (gb_set (b := w) ⟨rfl, rfl, rfl, Nat.le_refl _, fun _ _ _ => rfl⟩ 0 _) (.inr fun e => ?_)
      rcases h4.2 with ⟨rfl, _⟩ | ⟨g, cap, cur, rfl, hb, _⟩
      · cases e
      · have : g = b := by simpa [Value.ownBlock] using e
        omega)
    have hne : Tryd.prog.funcs[123]? = some _ := ({ lays166 with } : Lays.n240 Tryd.prog lays166_ren).f276
    clear h2 h4
    go_enter Tryd.func114, Tryd.ntmps114
    go_wp2_with fail
    rw [Lib.run_to_unsafe w ⟨b, 0, none⟩ Tryd.underlying67 Tryd.underlying164 hj (by rw [hjs]; decide) hsh (Nat.zero_lt_succ 1)]
    simp only [Result.andThen]
    rw [Oper.upon_value]
    go_wp2_with fail
    rw [run_callFunc_extern hne (by kernel_rfl) (by kernel_rfl) (by kernel_rfl) (e := Extern.AbiNoEscape.same) (by kernel_rfl)]
    rw [Lib.run_noEscape]
    simp only [Result.andThen]
    rw [Oper.upon_value]
    go_wp2_with fail
    rw [Lib.run_from_unsafe w ⟨b, 0, none⟩ Tryd.underlying164 Tryd.underlying67 hj hsh lies_wr]
    simp only [Result.andThen]
    rw [Oper.upon_value]
    go_wp2_with fail
    go_end0
    exact ⟨rfl, HX.out⟩
  · refine (Any.Builder_copyCheck_used ({ lays166 with } : Lays.n240 Tryd.prog lays166_ren) infoBuilder.toX72 b w c0).mono ?_
    rintro e w' ⟨he, rfl⟩
    exact ⟨he, ⟨v, h2, h4⟩, ⟨rfl, rfl, rfl, Nat.le_refl _, fun _ _ _ => rfl⟩, rfl⟩
theorem u8_infoW : (Tryd.prog.info? 5).map (fun i => (i.zero, i.size, i.bytes)) = some (some (.int .u8 0), 1, 1) := by kernel_rfl
theorem own_kind {w : World} {B : Nat} {v : Value} {n : Nat} {xs : List Value} (h : w.ownsRow B 5 1 v n xs) {k : Nat} (hk : v.ownBlock = some k) : B ≤ k ∧ ∃ c fz, w.heap[k]? = some (.cells c 5 fz) := by
  rcases h.2 with ⟨rfl, _⟩ | ⟨g, cap, cur, rfl, e1, e2, _⟩
  · cases hk
  · simp [Value.ownBlock] at hk
    subst hk
    exact ⟨e1, _, _, e2⟩
set_option maxRecDepth 100000 in
set_option maxHeartbeats 4000000 in
theorem woStr (B b : Nat) (l : Txt) (s : Txt) (w : World) (h : WO B b l w) (hs : B ≤ w.heap.size) (hl : l.length + s.length ≤ 140737488355328) :
    Calls Tryd.prog 98 #[.pointer (some ⟨b, 0, none⟩), .string ⟨s.toArray⟩] w fun e w' => e = .returned (.tuple #[.int .i64 s.length, .nilIface]) ∧ WO B b (l ++ s) w' ∧ KW B b w w' := by
  obtain ⟨i0, hi, hz0, hz1, hz2⟩ := info_parts u8_infoW
  have hbB := h.1
  go_enter Tryd.func98, Tryd.ntmps98
  go_wp2_with fail
  refine (copyCheck_wo B b l w h).mono ?_
  rintro e w1 ⟨rfl, ⟨v, hbk, hown⟩, hg1, hz⟩
  clear h
  have c1 : w1.cell? ⟨b, 1, none⟩ = some v := by rw [cell_of_row _ _ _ _ _ _ hbk]; rfl
  have hlt : b < w1.heap.size := lt_of_heap hbk
  have hs1 : B ≤ w1.heap.size := by omega
  clear hz
  go_upto_region 2 with (fail)
  iterate 19 go_step
  refine Lib.wpList_append_own_string _ rfl (.tmp 12) (.tmp 13) 68 9 rfl B 5 i0 Tryd.underlying68 Tryd.underlying9 hi hz0 hz1 hz2 _ _ _ rfl hown ⟨s.toArray⟩ rfl ?c3 ?c4 hs1 ?_
  case c3 => show l.length + s.length ≤ maxLen; unfold maxLen; omega
  case c4 => show l.length + s.length ≤ _; omega
  intro v' w2 hown' hgrow _
  have hne : v.ownBlock ≠ some b := by
    intro e; have := (own_kind hown e).1; omega
  have hvB : ∀ k, v.ownBlock = some k → B ≤ k ∧ ∃ c fz, w1.heap[k]? = some (.cells c 5 fz) := fun k hk => own_kind hown hk
  have hb2 : w2.heap[b]? = some (.cells #[.pointer (some ⟨b, 0, none⟩), v] 72 (0, 0)) := by
    rw [hgrow.block b hlt (fun e => hne e.symm)]
    exact hbk
  have d0 : w2.cell? ⟨b, 0, none⟩ = some (.pointer (some ⟨b, 0, none⟩)) := by rw [cell_of_row _ _ _ _ _ _ hb2]; rfl
  have d1 : w2.cell? ⟨b, 1, none⟩ = some v := by rw [cell_of_row _ _ _ _ _ _ hb2]; rfl
  have f1 : w2.frozen? ⟨b, 1, none⟩ = false := frozen_of_row w2 b 1 _ _ hb2
  have hone : ∃ A n c, v' = .slice A n c := by
    rcases hown'.2 with ⟨h1, _⟩ | ⟨g, cap, cur, h1, _⟩
    · exact ⟨_, _, _, h1⟩
    · exact ⟨_, _, _, h1⟩
  have hvo : v'.ownBlock ≠ some b := by
    intro e; have := (own_kind hown' e).1; omega
  obtain ⟨A, n, cc, rfl⟩ := hone
  go_wp2
  go_ret2
  refine ⟨rfl, ⟨hbB, _, _, heap_setCell_any w2 b 1 _ _ _ _ hb2, .inr rfl, ?_⟩, ?_⟩
  · have := World.ownsRow.kept hown' (gb_set (b := w2) ⟨rfl, rfl, rfl, Nat.le_refl _, fun _ _ _ => rfl⟩ 1 (.slice A n cc)) (row := some b) (.inr hvo)
    have he : Lib.strCells ⟨s.toArray⟩ = s.map u8V := by rw [strCells_list]; rfl
    have hz : (ByteArray.mk s.toArray).size = s.length := rfl
    rw [he, hz] at this
    simpa using this
  · refine (KW.of_gb hg1 (fun k e => .inl (by cases e; rfl))).trans ((KW.of_gb hgrow (fun k e => .inr (hvB k e))).trans ?_)
    exact KW.of_gb (gb_set (b := w2) ⟨rfl, rfl, rfl, Nat.le_refl _, fun _ _ _ => rfl⟩ 1 _) (fun k e => .inl (by cases e; rfl))
theorem woLen (B b : Nat) (l : Txt) (w : World) (h : WO B b l w) : Calls Tryd.prog 42 #[.pointer (some ⟨b, 0, none⟩)] w fun e w' => e = .returned (.int .i64 l.length) ∧ Q w w' := by
  obtain ⟨h1, p, v, h2, h3, h4⟩ := h
  obtain ⟨A, c, rfl, _⟩ := row_cells h4 (by simp)
  have c1 : w.cell? ⟨b, 1, none⟩ = some (.slice A l.length c) := by rw [cell_of_row _ _ _ _ _ _ h2]; rfl
  clear h2 h3 h4
  go_enter Tryd.func42, Tryd.ntmps42
  go_wp2_with fail
  go_ret
  exact ⟨rfl, Q.refl w⟩
theorem cells_u8 : Tryd.prog.cellsOf 5 = 1 := by kernel_rfl
set_option maxRecDepth 100000 in
set_option maxHeartbeats 4000000 in
theorem woString (B b : Nat) (l : Txt) (w : World) (h : WO B b l w) (h0 : l ≠ []) : Calls Tryd.prog 43 #[.pointer (some ⟨b, 0, none⟩)] w fun e w' => e = .returned (.string ⟨l.toArray⟩) ∧ Below B w w' := by
  obtain ⟨hbB, p, v, hbk, h3, hown⟩ := h
  have hl0 : l.length ≠ 0 := by simpa using h0
  obtain ⟨g, cap, cur, rfl, hbg, hg, hnc, hcm, hcs, htake⟩ : ∃ g cap cur, v = .slice (some ⟨g, 0, none⟩) l.length cap ∧ B ≤ g ∧ w.heap[g]? = some (.cells cur 5 (0, 0)) ∧ l.length ≤ cap ∧ cap ≤ maxLen ∧ cur.size = cap * 1 ∧ cur.toList.take (l.length * 1) = l.map u8V := by
    rcases hown.2 with ⟨_, hz⟩ | ⟨g, cap, cur, hv, r⟩
    · exact absurd hz hl0
    · exact ⟨g, cap, cur, hv, r⟩
  have c1 : w.drew.cell? ⟨b, 1, none⟩ = some (.slice (some ⟨g, 0, none⟩) l.length cap) := by
    have : w.drew.heap[b]? = some (.cells #[p, .slice (some ⟨g, 0, none⟩) l.length cap] 72 (0, 0)) := hbk
    rw [Lib.cell_of_heap this]; rfl
  have hSD : (Builtin.unsafeSliceData_ #[68] 105 #[.slice (some ⟨g, 0, none⟩) l.length cap]).run Tryd.prog w.drew = .ok (.pointer (some ⟨g, 0, none⟩)) w.drew :=
    Lib.run_unsafeSliceData_row _ _ _ _ _ _ (by omega)
  have hUS : (Builtin.unsafeString_ #[105, 3] 9 #[.pointer (some ⟨g, 0, none⟩), .int .i64 l.length]).run Tryd.prog w.drew = .ok (.string ⟨l.toArray⟩) (w.drew.freeze ⟨g, 0, none⟩ l.length) := by
    refine Lib.run_unsafeString_row w.drew 105 3 9 5 Tryd.underlying105 cells_u8 g cur.size (by have hg' : w.drew.heap[g]? = some (.cells cur 5 (0, 0)) := hg; simp [World.shape?, hg']) l h0 (by omega) (by unfold maxLen at hcm; omega) ?_
    intro j x hx
    have := hown.cells (g := g) rfl j (.int .u8 x.toNat) (by simp [u8V, hx])
    exact this
  clear hbk hg hown htake
  have mixed : Tryd.prog.follows .mixedOrders = true := by kernel_rfl
  go_enter Tryd.func43, Tryd.ntmps43
  go_upto_region 1 with (fail)
  go_region_o
  all_goals (go_wp2; go_ret; exact ⟨rfl, Lib.below_freeze (Below.drew (Below.refl B w)) (p := ⟨g, 0, none⟩) hbg _⟩)
end Go.Proofs.YtlhhiiemojhjdaaDoor
/- The writer's put. -/
set_option linter.unusedVariables false
set_option linter.unusedSimpArgs false
namespace Go.Proofs.YtlhhiiemojhjdaaDoor
open Go Go.RowKit
/-- What is written of f: all, or more than fits. -/
def CutT (l f : Txt) : Prop := l = f ∨ (8000 < l.length ∧ 8000 < f.length)
theorem CutT.put {l f : Txt} (h : CutT l f) (s : Txt) : CutT (if l.length ≤ 8000 then l ++ s else l) (f ++ s) := by
  rcases h with rfl | ⟨h1, h2⟩
  · split
    · exact .inl rfl
    · right; rw [List.length_append]; omega
  · rw [if_neg (by omega)]; right; rw [List.length_append]; omega
/-- A writer that has been handed f. -/
def WR (B b : Nat) (f : Txt) (w : World) : Prop := ∃ l, WO B b l w ∧ CutT l f ∧ l.length ≤ 2000000
theorem WR.q {B b : Nat} {f : Txt} {w w' : World} (h : WR B b f w) (hq : Q w w') : WR B b f w' := by
  obtain ⟨l, h1, h2, h3⟩ := h; exact ⟨l, h1.q hq, h2, h3⟩
/-- What a piece of the writer leaves. -/
def PutP (B b : Nat) (f : Txt) (w : World) (e : Ending) (w' : World) : Prop := e = .returned (.tuple #[]) ∧ WR B b f w' ∧ KW B b w w'
set_option maxRecDepth 100000 in
theorem put_any (B b : Nat) (f s : Txt) (w : World) (h : WR B b f w) (hs : B ≤ w.heap.size) (hl : s.length ≤ 1100000) :
    Calls Tryd.prog 65 #[.pointer (some ⟨b, 0, none⟩), .string ⟨s.toArray⟩] w (PutP B b (f ++ s) w) := by
  obtain ⟨l, h1, h2, h3⟩ := h
  have h4 := h2.put s
  have HL := Lib.hid (woLen B b l w h1)
  by_cases hc : l.length ≤ 8000
  · rw [if_pos hc] at h4
    have HS := Lib.hid (fun W (hq : Q w W) => woStr B b l s W (h1.q hq) (Nat.le_trans hs hq.size) (by omega))
    have HC := Lib.hid h4
    have g1 : decide ((l.length : Int) ≤ 8000) = true := by simp; omega
    have hb : l.length + s.length ≤ 2000000 := by omega
    clear h1 h2 h4 h3 hc hl
    go_enter Tryd.func65, Tryd.ntmps65
    go_wp2_with fail
    refine HL.out.mono ?_
    rintro e w1 ⟨rfl, hq1⟩
    have HQ1 := Lib.hid hq1
    clear hq1
    go_wp2_with fail
    refine (HS.out _ HQ1.out).mono ?_
    rintro e w2 ⟨rfl, h5, h6⟩
    have HX : Hid (PutP B b (f ++ s) w (.returned (.tuple #[])) w2) := Lib.hid ⟨rfl, ⟨_, h5, HC.out, by rw [List.length_append]; exact hb⟩, (KW.q HQ1.out).trans h6⟩
    clear h5 h6
    go_wp2_with fail
    go_end0
    exact HX.out
  · rw [if_neg hc] at h4
    have HO := Lib.hid (fun W (hq : Q w W) => h1.q hq)
    have HC := Lib.hid h4
    have g1 : decide ((l.length : Int) ≤ 8000) = false := by simp; omega
    clear h1 h2 h4 hl
    go_enter Tryd.func65, Tryd.ntmps65
    go_wp2_with fail
    refine HL.out.mono ?_
    rintro e w1 ⟨rfl, hq1⟩
    have HX : Hid (PutP B b (f ++ s) w (.returned (.tuple #[])) w1) := Lib.hid ⟨rfl, ⟨l, HO.out _ hq1, HC.out, h3⟩, KW.q hq1⟩
    clear hq1
    go_wp2_with fail
    go_end0
    exact HX.out
end Go.Proofs.YtlhhiiemojhjdaaDoor
/- The writer: a text. -/
set_option linter.unusedVariables false
set_option linter.unusedSimpArgs false
namespace Go.Proofs.YtlhhiiemojhjdaaDoor
open Go Go.RowKit
def TxI (B b : Nat) (f s : Txt) (w : World) (k : Nat) (W : World) : Prop := WR B b (f ++ 34 :: escL (s.take k)) W ∧ KW B b w W
theorem TxI.next {B b : Nat} {f s : Txt} {w : World} {k : Nat} {W W' : World} {e : Ending} (h : TxI B b f s w k W) (hk : k < s.length) (h2 : PutP B b ((f ++ 34 :: escL (s.take k)) ++ escB (gB s k)) W e W') : e = .returned (.tuple #[]) ∧ TxI B b f s w (k + 1) W' := by
  obtain ⟨h3, h4, h5⟩ := h2
  refine ⟨h3, ?_, h.2.trans h5⟩
  have e1 : s.take (k + 1) = s.take k ++ [gB s k] := by
    rw [List.take_add_one]
    congr 1
    unfold gB
    simp [List.getD, hk]
  rw [e1, escL_app, escL_cons]
  simpa [escL] using h4
theorem escB_len (b : UInt8) : (escB b).length ≤ 6 := by
  unfold escB
  repeat' split
  all_goals simp
theorem sub_at (s : Txt) (k : Nat) (h : k < s.length) : sub s k (k + 1) = [gB s k] := by
  unfold sub gB
  rw [List.take_add_one]
  rw [List.drop_append]
  simp [List.getD, h, Nat.min_eq_left (Nat.le_of_lt h)]
theorem v_is {v : UInt8} {n : Nat} (hn : n < 256) (h : (v.toNat : Int) = (n : Int)) : v = n.toUInt8 := by
  apply UInt8.toNat_inj.1
  rw [Nat.toUInt8, UInt8.toNat_ofNat']
  omega
theorem escA {v : UInt8} (h : (v.toNat : Int) = 34 ∨ (v.toNat : Int) = 92) : [92, v] = escB v := by
  rcases h with h | h
  · have := v_is (n := 34) (by decide) h; subst this; rfl
  · have := v_is (n := 92) (by decide) h; subst this; rfl
theorem esc10 {v : UInt8} (h : (v.toNat : Int) = 10) : [92, 110] = escB v := by
  have := v_is (n := 10) (by decide) h; subst this; rfl
theorem esc13 {v : UInt8} (h : (v.toNat : Int) = 13) : [92, 114] = escB v := by
  have := v_is (n := 13) (by decide) h; subst this; rfl
theorem esc9 {v : UInt8} (h : (v.toNat : Int) = 9) : [92, 116] = escB v := by
  have := v_is (n := 9) (by decide) h; subst this; rfl
theorem escRest {v : UInt8} (h : ¬ v.toNat < 32 ∧ ¬ (v.toNat : Int) = 34 ∧ ¬ (v.toNat : Int) = 92) : [v] = escB v := by
  obtain ⟨h, h1, h2⟩ := h
  have no : ∀ c : UInt8, (v.toNat : Int) ≠ c.toNat → v ≠ c := fun c hc e => hc (by rw [e])
  unfold escB
  rw [if_neg (fun x => x.elim (no 34 h1) (no 92 h2)), if_neg (no 10 (by show _ ≠ (10 : Int); omega)), if_neg (no 13 (by show _ ≠ (13 : Int); omega)), if_neg (no 9 (by show _ ≠ (9 : Int); omega)), if_neg h]
theorem escCtl {v : UInt8} (h : v.toNat < 32 ∧ ¬ (v.toNat : Int) = 10 ∧ ¬ (v.toNat : Int) = 13 ∧ ¬ (v.toNat : Int) = 9) : [92, 117, 48, 48, hexD (v.toNat / 16), hexD (v.toNat % 16)] = escB v := by
  obtain ⟨h, h1, h2, h3⟩ := h
  have no : ∀ c : UInt8, (v.toNat : Int) ≠ c.toNat → v ≠ c := fun c hc e => hc (by rw [e])
  unfold escB
  rw [if_neg (fun x => x.elim (no 34 (by show _ ≠ (34 : Int); omega)) (no 92 (by show _ ≠ (92 : Int); omega))), if_neg (no 10 h1), if_neg (no 13 h2), if_neg (no 9 h3), if_pos h]
theorem hex32 : ∀ n : Fin 32, (92 :: 117 :: 48 :: 48 :: (sub [48, 49] (n.val / 16) (n.val / 16 + 1) ++ sub [48, 49, 50, 51, 52, 53, 54, 55, 56, 57, 97, 98, 99, 100, 101, 102] (n.val % 16) (n.val % 16 + 1)) : Txt) = [92, 117, 48, 48, hexD (n.val / 16), hexD (n.val % 16)] := by decide
theorem escHex {v : UInt8} (h : v.toNat < 32 ∧ ¬ (v.toNat : Int) = 10 ∧ ¬ (v.toNat : Int) = 13 ∧ ¬ (v.toNat : Int) = 9) : (92 :: 117 :: 48 :: 48 :: (sub [48, 49] (v.toNat / 16) (v.toNat / 16 + 1) ++ sub [48, 49, 50, 51, 52, 53, 54, 55, 56, 57, 97, 98, 99, 100, 101, 102] (v.toNat % 16) (v.toNat % 16 + 1)) : Txt) = escB v := by
  rw [← escCtl h]
  exact hex32 ⟨v.toNat, h.1⟩
theorem put_as {b : Nat} {s1 s2 : Txt} {w : World} {R : Ending → World → Prop} (h : Calls Tryd.prog 65 #[.pointer (some ⟨b, 0, none⟩), .string ⟨s2.toArray⟩] w R) (e : s1 = s2) : Calls Tryd.prog 65 #[.pointer (some ⟨b, 0, none⟩), .string ⟨s1.toArray⟩] w R := by subst e; exact h
set_option maxRecDepth 100000 in
theorem qtext_any (B b : Nat) (f s : Txt) (w : World) (h : WR B b f w) (hs : B ≤ w.heap.size) (hl : s.length ≤ 9223372036854775807) :
    Calls Tryd.prog 68 #[.pointer (some ⟨b, 0, none⟩), .string ⟨s.toArray⟩] w (PutP B b (f ++ quoteJ s) w) := by
  have HP0 := Lib.hid (put_any B b f [34] w h hs (by simp))
  have HS := Lib.hid hs
  clear h hs
  go_enter Tryd.func68, Tryd.ntmps68
  go_wp2_with fail
  refine HP0.out.mono ?_
  rintro e w1 ⟨rfl, h1, h2⟩
  have HI0 : Hid (TxI B b f s w 0 w1) := Lib.hid ⟨by simpa [escL] using h1, h2⟩
  clear h1 h2
  go_upto_region 2 with (fail)
  go_loopw [10] (fun i wx => ∃ k : Nat, k ≤ s.length ∧ i = .int .i64 k ∧ Hid (TxI B b f s w k wx)) (fun i _ => s.length - (intOf i).toNat)
  case atStart => exact ⟨0, Nat.zero_le _, rfl, HI0⟩
  case round =>
    obtain ⟨k, hk, rfl, HI⟩ := hrel
    rename World => wa
    by_cases hlt : k < s.length
    · have hd : decide (k < s.length) = true := by simpa using hlt
      obtain ⟨v, hv⟩ : ∃ v, gB s k = v := ⟨_, rfl⟩
      have hp := fun W (h1 : WR B b (f ++ 34 :: escL (s.take k)) W) (h2 : B ≤ W.heap.size) => put_any B b (f ++ 34 :: escL (s.take k)) (escB v) W h1 h2 (by have := escB_len v; omega)
      have HPut := Lib.hid (hp wa HI.out.1 (Nat.le_trans HS.out HI.out.2.size))
      have HV := Lib.hid hv
      have HID : Hid (TxI B b f s w k wa.drew) := Lib.hid ⟨HI.out.1.q (Q.refl wa).drew, HI.out.2.trans (KW.q (Q.refl wa).drew)⟩
      have HPD := Lib.hid (hp wa.drew HID.out.1 (Nat.le_trans HS.out HID.out.2.size))
      clear hp
      have hsub := sub_at s k hlt
      rw [hv] at hsub
      by_cases h2 : v.toNat < 32
      · have g6 : decide ((v.toNat : Int) < 32) = true := by simp; omega
        go_wp2_with fail
        all_goals try (refine (put_as HPut.out (by
            (try simp only [beq_iff_eq, beq_eq_false_iff_ne, ne_eq] at *)
            first | exact escA (by omega) | exact esc10 (by omega) | exact esc13 (by omega) | exact esc9 (by omega) | exact escRest (by omega) | exact escHex (by omega))).mono ?_)
        all_goals try (first
          | (intro e w2 hp
             obtain ⟨rfl, hx⟩ := TxI.next HI.out hlt (by rw [hv]; exact hp)
             have HX := Lib.hid hx
             clear hx hp hsub
             go_wp2_with fail
             go_roundw
             case rel => exact ⟨k + 1, by omega, by go_num, HX⟩
             case measure => simp [intOf]; omega)
          | skip)
        haveI hne : Nonempty (SWA (fun _ : World => True)) := ⟨⟨wa, trivial⟩⟩
        refine wp_plan_A (fun _ => True) trivial [([0, 1, 2, 3, 4, 5, 6, 7, 8, 9, 10, 11, 12, 13, 14], [15])] (by kernel_rfl) (by kernel_rfl) (fun c a d v w h => by cases d <;> exact h) ?_
        simp only [wpPlan, wpListK, List.map_cons, List.map_nil, Array.getD_eq_getD_getElem?, List.getElem?_toArray, List.getElem?_cons_succ, List.getElem?_cons_zero, Option.getD_some, Act.put, List.setIfInBounds_toArray, List.set_cons_succ, List.set_cons_zero]
        (repeat (go_big_quiet_step (fail)))
        refine wpQuiet_nil ?_
        intro K hK
        clear hne
        go_wp2_with fail
        refine (put_as HPD.out (by
            (try simp only [beq_iff_eq, beq_eq_false_iff_ne, ne_eq] at *)
            first | exact escA (by omega) | exact esc10 (by omega) | exact esc13 (by omega) | exact esc9 (by omega) | exact escRest (by omega) | exact escHex (by omega))).mono ?_
        intro e w2 hp
        obtain ⟨rfl, hx⟩ := TxI.next HID.out hlt (by rw [hv]; exact hp)
        have HX := Lib.hid hx
        clear hx hp hsub
        go_wp2_with fail
        refine hK.out _ _ ⟨⟨w2, trivial⟩, rfl⟩ ?_
        clear hK K
        go_wp2_with fail
        go_roundw
        case rel => exact ⟨k + 1, by omega, by go_num, HX⟩
        case measure => simp [intOf]; omega
      · have g6 : decide ((v.toNat : Int) < 32) = false := by simp; omega
        go_wp2_with fail
        all_goals
          refine (put_as HPut.out (by
            (try simp only [beq_iff_eq, beq_eq_false_iff_ne, ne_eq] at *)
            first | exact escA (by omega) | exact esc10 (by omega) | exact esc13 (by omega) | exact esc9 (by omega) | exact escRest (by omega) | exact escHex (by omega))).mono ?_
          intro e w2 hp
          obtain ⟨rfl, hx⟩ := TxI.next HI.out hlt (by rw [hv]; exact hp)
          have HX := Lib.hid hx
          clear hx hp hsub
          go_wp2_with fail
          go_roundw
          case rel => exact ⟨k + 1, by omega, by go_num, HX⟩
          case measure => simp [intOf]; omega
    · have hd : decide (k < s.length) = false := by simpa using hlt
      obtain rfl : k = s.length := by omega
      have HPut := Lib.hid (put_any B b (f ++ 34 :: escL (s.take s.length)) [34] wa HI.out.1 (Nat.le_trans HS.out HI.out.2.size) (by simp))
      rw [List.take_length] at HPut
      have HKW := Lib.hid HI.out.2
      clear HI
      go_wp2_with fail
      refine HPut.out.mono ?_
      rintro e w2 ⟨rfl, h4, h5⟩
      have HX : Hid (PutP B b (f ++ quoteJ s) w (.returned (.tuple #[])) w2) := Lib.hid ⟨rfl, by simpa [quoteJ] using h4, HKW.out.trans h5⟩
      clear h4 h5
      go_wp2_with fail
      go_end0
      exact HX.out
end Go.Proofs.YtlhhiiemojhjdaaDoor
/- The writer: is a number's text one? (the function that is tried) -/
set_option linter.unusedVariables false
set_option linter.unusedSimpArgs false
namespace Go.Proofs.YtlhhiiemojhjdaaDoor
open Go Go.RowKit
def OkB (W : World) (ob : Nat) (b : Bool) : Prop := W.heap[ob]? = some (.cells #[.bool b] 4 (0, 0))
def NumC (t : Txt) (ob : Nat) (W0 : World) (e : Ending) (W : World) : Prop :=
  (e = .returned (.tuple #[]) ∧ OkB W ob (isNumL t) ∧ GX [ob] W0 W) ∨ ∃ bf, e = .panicked [{ v := .iface 76 (.pointer (some ⟨bf, 0, none⟩)), recovered := false }] ∧ OkB W ob false ∧ GX [ob] W0 W ∧ isNumL t = false
/-- What stays while the number is read. -/
def NCl (jb : Nat) (t : Txt) (W : World) : Prop := W.cell? ⟨jb, 1, none⟩ = some (.string ⟨t.toArray⟩)
theorem num_is {t : Txt} {r : List UInt8} {q : Nat} (h : numR t = .ok () r) (hq : q ≤ t.length) (hd : t.drop q = r) : isNumL t = (sub t 0 q == t) := by
  unfold isNumL
  rw [h, ← hd]
  have e : sub t 0 q = t.take q := by simp [sub]
  rw [e]
  by_cases hl : q = t.length
  · subst hl; simp
  · have h1 : t.drop q ≠ [] := fun e => by
      have := congrArg List.length e
      simp at this; omega
    have h2 : t.take q ≠ t := fun e => by
      have := congrArg List.length e
      simp at this; omega
    have h3 : (t.take q == t) = false := by simpa using h2
    rw [h3]
    cases hx : t.drop q with
    | nil => exact absurd hx h1
    | cons _ _ => rfl
set_option maxRecDepth 100000 in
theorem numclo_any (t : Txt) (hl : t.length ≤ 1000000000) (jb ob : Nat) (W : World) (hs : W.cell? ⟨jb, 1, none⟩ = some (.string ⟨t.toArray⟩)) (ho : OkB W ob false) (hjo : jb ≠ ob) (hjb : jb < W.heap.size) :
    Calls Tryd.prog 66 #[.pointer (some ⟨jb, 0, none⟩), .pointer (some ⟨ob, 0, none⟩)] W (NumC t ob W) := by
  have hol := lt_of_heap ho
  have HO := Lib.hid ho
  clear ho
  go_enter Tryd.func66, Tryd.ntmps66
  go_upto_region 1 with (fail)
  obtain ⟨R, hRR⟩ : ∃ R, W.heap.size = R := ⟨_, rfl⟩
  obtain ⟨W1, hW1⟩ : ∃ W1, W.alloc (.cells #[.string ⟨t.toArray⟩, .int .i64 0] 82) = W1 := ⟨_, rfl⟩
  have hq1 : Q W W1 := by rw [← hW1]; exact (Q.refl W).alloc _
  have hr1 : RdB W1 R t 0 := by rw [← hW1, ← hRR]; exact heap_alloc_new W _
  rw [hW1, hRR]
  rw [hRR] at hol hjb
  have HQ1 := Lib.hid hq1
  have HR1 := Lib.hid hr1
  have HRR := Lib.hid hRR
  have hs1 := hq1.cell hs
  have HS1 : Hid (NCl jb t W1) := Lib.hid hs1
  have hnum := number_any R t 0 W1.drew (hr1.q (Q.refl W1).drew) (by omega) hl
  rw [List.drop_zero] at hnum
  obtain ⟨N, hN⟩ : ∃ N, numR t = N := ⟨_, rfl⟩
  have HN := Lib.hid hN
  rw [hN] at hnum
  have HNum := Lib.hid hnum
  clear hW1 hq1 hr1 hRR hnum hN hs hs1
  have k0 : ∀ m : SWA (NCl jb t), m.val.cell? ⟨jb, 1, none⟩ = some (.string ⟨t.toArray⟩) := fun m => m.property
  haveI hne : Nonempty (SWA (NCl jb t)) := ⟨⟨W1.drew, HS1.out⟩⟩
  refine wp_plan_A (NCl jb t) HS1.out [([0, 2, 3], [1]), ([4], [5])] (by kernel_rfl) (by kernel_rfl) (fun c a d v w h => by cases d <;> exact h) ?_
  simp only [wpPlan, wpListK, List.map_cons, List.map_nil, Array.getD_eq_getD_getElem?, List.getElem?_toArray, List.getElem?_cons_succ, List.getElem?_cons_zero, Option.getD_some, Act.put, List.setIfInBounds_toArray, List.set_cons_succ, List.set_cons_zero]
  (repeat (go_big_quiet_step (fail)))
  refine wpQuiet_nil ?_
  intro K hK
  clear hne k0
  go_wp2_with fail
  refine HNum.out.mono ?_
  intro e w2 hU
  have HU := Lib.hid hU
  clear hU HNum
  have HG0 : Hid (∀ W', GX [R] W1.drew W' → GX [ob] W W' ∧ OkB W' ob false ∧ NCl jb t W') := Lib.hid (fun W' h => by
    have hR := HRR.out
    refine ⟨((GX.q HQ1.out).drew).sub h (fun k hk => by simp at hk; right; omega), h.heap (by simp; omega) (HQ1.out.drew.block HO.out), h.cellJ (p := ⟨jb, 1, none⟩) (by simp; omega) HS1.out⟩)
  rcases N with ⟨x, r⟩ | ⟨c, n⟩
  · obtain ⟨⟨q, m1, m2, m3, m4, rfl⟩, hg⟩ := HU.out
    obtain ⟨g1, g2, g3⟩ := HG0.out _ hg
    have HI := Lib.hid (num_is HN.out m2 m3)
    have HG1 := Lib.hid g1
    have HO2 := Lib.hid g2
    have hS2 := g3
    clear m1 m2 m3 m4 hg g1 g2 g3 HU HG0
    go_wp2_with fail
    refine hK.out _ _ ⟨⟨w2, hS2⟩, rfl⟩ ?_
    clear hK K
    haveI hne : Nonempty (SWA (NCl jb t)) := ⟨⟨w2, hS2⟩⟩
    (repeat (go_big_quiet_step (fail)))
    refine wpQuiet_nil ?_
    intro K hK
    have cb : w2.cell? ⟨ob, 0, none⟩ = some (.bool false) := by rw [cell_of_row _ _ _ _ _ _ HO2.out]; rfl
    have fb := frozen_of_row w2 ob 0 _ _ HO2.out
    clear hne
    have hS3 : ∀ v, NCl jb t (w2.setCell ⟨ob, 0, none⟩ v) := fun v => by
      unfold NCl at hS2 ⊢
      rw [World.cell?_setCell_other _ _ _ _ (by simp)]; exact hS2
    have HX : Hid (NumC t ob W (.returned (.tuple #[])) (w2.setCell ⟨ob, 0, none⟩ (.bool (sub t 0 q == t)))) := Lib.hid (by
      left
      refine ⟨rfl, ?_, HG1.out.set (by simp) _ _⟩
      rw [HI.out]
      unfold OkB
      rw [heap_setCell_any _ ob 0 _ _ _ _ HO2.out]; rfl)
    go_wp2_with fail
    refine hK.out _ _ ⟨⟨_, hS3 _⟩, rfl⟩ ?_
    clear hK K
    go_end0
    exact HX.out
  · obtain ⟨⟨bf, rfl, hf⟩, hg⟩ := HU.out
    obtain ⟨g1, g2, g3⟩ := HG0.out _ hg
    have HX : Hid (NumC t ob W (.panicked [{ v := .iface 76 (.pointer (some ⟨bf, 0, none⟩)), recovered := false }]) w2) := Lib.hid (.inr ⟨bf, rfl, g2, g1, by unfold isNumL; rw [HN.out]⟩)
    clear hf hg g1 g2 g3 HU HG0
    go_wp2_with fail
    exact ⟨rfl, HX.out⟩
end Go.Proofs.YtlhhiiemojhjdaaDoor
/- The writer: values without kids. -/
set_option linter.unusedVariables false
set_option linter.unusedSimpArgs false
namespace Go.Proofs.YtlhhiiemojhjdaaDoor
open Go Go.RowKit
/-- What the writer's value comes to. -/
def ValW (B b : Nat) (f : Txt) (j : JsonD) (w : World) (e : Ending) (w' : World) : Prop := e = .returned (.bool (numJ j)) ∧ KW B b w w' ∧ (numJ j = true → WR B b (f ++ writeJ j) w')
/-- A right value that is to be written. -/
structure ToW (B b : Nat) (f : Txt) (j : JsonD) (d : Nat) (w0 w : World) (vn vk : Value) : Prop where
  wr : WR B b f w
  q : Q w0 w
  lo : w0.heap.size ≤ b
  hi : b < B
  sz : B ≤ w.heap.size
  jv : JV w0 j vn vk
  wf : wfJ j d = true
  cnt : cntJ j ≤ 8000
  big : bigJ 1100000 j
theorem wf_kind {k : Int} {t : Txt} {ns : List Txt} {ks : List JsonD} {d : Nat} (h : wfJ (.mk k t ns ks) d = true) : k = 1 ∨ k = 2 ∨ k = 3 ∨ k = 4 ∨ k = 5 ∨ k = 6 ∨ k = 7 := by
  rw [wfJ] at h
  by_cases h1 : k = 1 ∨ k = 2 ∨ k = 3
  · omega
  · rw [if_neg h1] at h
    by_cases h4 : k = 4
    · omega
    · rw [if_neg h4] at h
      by_cases h5 : k = 5
      · omega
      · rw [if_neg h5] at h
        by_cases h6 : k = 6
        · omega
        · rw [if_neg h6] at h
          by_cases h7 : k = 7
          · omega
          · rw [if_neg h7] at h; cases h
theorem wf_leaf {k : Int} {t : Txt} {ns : List Txt} {ks : List JsonD} {d : Nat} (h : wfJ (.mk k t ns ks) d = true) (hk : k ≠ 6 ∧ k ≠ 7) : ks = [] := by
  have hk1 := wf_kind h
  rw [wfJ] at h
  by_cases h1 : k = 1 ∨ k = 2 ∨ k = 3
  · rw [if_pos h1] at h
    simp only [Bool.and_eq_true, List.isEmpty_iff] at h
    exact h.2
  · rw [if_neg h1] at h
    by_cases h4 : k = 4
    · rw [if_pos h4] at h
      simp only [Bool.and_eq_true, List.isEmpty_iff] at h
      exact h.2
    · rw [if_neg h4] at h
      by_cases h5 : k = 5
      · rw [if_pos h5] at h
        simp only [Bool.and_eq_true, List.isEmpty_iff] at h
        exact h.1.2
      · omega
theorem num_leaf {k : Int} {t : Txt} {ns : List Txt} (hk : k ≠ 4) : numJ (.mk k t ns []) = true := by
  rw [numJ, numKs]
  simp [hk]
theorem num_four {t : Txt} {ns : List Txt} : numJ (.mk 4 t ns []) = isNumL t := by
  rw [numJ, numKs]
  simp
set_option maxRecDepth 100000 in
theorem value_leaf (B b : Nat) (f : Txt) (k : Int) (t : Txt) (ns : List Txt) (ks : List JsonD) (d : Nat) (w0 w : World) (vn vk : Value) (h : ToW B b f (.mk k t ns ks) d w0 w vn vk) (hk : k ≠ 6 ∧ k ≠ 7) :
    Calls Tryd.prog 41 #[.pointer (some ⟨b, 0, none⟩), .agg (cellJ (.mk k t ns ks) vn vk).toArray] w (ValW B b f (.mk k t ns ks) w) := by
  have hks := wf_leaf h.wf hk
  have hkk := wf_kind h.wf
  subst hks
  obtain ⟨⟨A1, n1, c1n, rfl⟩, A2, n2, c2n, rfl⟩ := jv_slices h.jv
  have H := Lib.hid h
  have hlt : t.length ≤ 1100000 := by have := h.big; rw [bigJ] at this; exact this.1
  clear h
  go_enter Tryd.func41, Tryd.ntmps41
  go_upto_region 1 with (fail)
  obtain ⟨J, hJ⟩ : ∃ J, w.heap.size = J := ⟨_, rfl⟩
  have e1 := heap_alloc_new w (.cells (cellJ (.mk k t ns []) (.slice A1 n1 c1n) (.slice A2 n2 c2n)).toArray 40)
  obtain ⟨W1, hW1⟩ : ∃ W1, w.alloc (.cells (cellJ (.mk k t ns []) (.slice A1 n1 c1n) (.slice A2 n2 c2n)).toArray 40) = W1 := ⟨_, rfl⟩
  have q1 : Q w W1 := by rw [← hW1]; exact (Q.refl w).alloc _
  rw [hW1, hJ] at e1
  rw [hW1, hJ]
  have HE1 := Lib.hid e1
  have HQ1 := Lib.hid q1
  have HJ := Lib.hid hJ
  have HWR := Lib.hid (H.out.wr.q q1)
  have HSz : Hid (B ≤ W1.heap.size) := Lib.hid (Nat.le_trans H.out.sz q1.size)
  have x0 : W1.cell? ⟨J, 0, none⟩ = some (.int .i64 k) := by rw [cell_of_row _ _ _ _ _ _ HE1.out]; rfl
  clear e1 q1 hJ hW1
  have HT : Hid (∀ W2, Q W1 W2 → KW B b w W2) := Lib.hid (fun W2 h => KW.q (HQ1.out.trans h))
  have HFin : Hid (∀ (e : Ending) (w2 : World) (s : Txt), writeJ (.mk k t ns []) = s → numJ (.mk k t ns []) = true → PutP B b (f ++ s) W1 e w2 → e = .returned (.tuple #[]) ∧ ValW B b f (.mk k t ns []) w (.returned (.bool true)) w2) := Lib.hid (fun e w2 s h1 h2 h3 => by
    obtain ⟨h3, h4, h5⟩ := h3
    exact ⟨h3, by rw [h2], (HT.out W1 (Q.refl W1)).trans h5, fun _ => by rw [h1]; exact h4⟩)
  rcases hkk with rfl | rfl | rfl | rfl | rfl | rfl | rfl
  rotate_left 3
  · have x1 : W1.cell? ⟨J, 1, none⟩ = some (.string ⟨t.toArray⟩) := by rw [cell_of_row _ _ _ _ _ _ HE1.out]; rfl
    go_upto_region 26 with (fail)
    have e2 := heap_alloc_new W1 (.cells #[.bool false] 4)
    have q2 : Q W1 (W1.alloc (.cells #[.bool false] 4)) := (Q.refl W1).alloc _
    have s2 : (W1.alloc (.cells #[.bool false] 4)).heap.size = W1.heap.size + 1 := by simp
    obtain ⟨W2, hW2⟩ : ∃ W2, W1.alloc (.cells #[.bool false] 4) = W2 := ⟨_, rfl⟩
    obtain ⟨O, hO⟩ : ∃ O, W1.heap.size = O := ⟨_, rfl⟩
    rw [hW2, hO] at e2
    rw [hW2] at q2 s2
    rw [hW2, hO]
    have hJO : J < O := by rw [← hO]; exact lt_of_heap HE1.out
    have HO := Lib.hid hO
    have HO2 : Hid (OkB W2 O false) := Lib.hid e2
    have HQ2 := Lib.hid q2
    have HS2 := Lib.hid (s2.trans (by rw [hO]))
    have hnc := numclo_any t (by omega) J O (W2.alloc (.cells #[.nilIface] 32)) ((q2.alloc _).cell x1) (((Q.refl W2).alloc _).block e2) (by omega) (by simp; rw [s2, hO]; omega)
    have hnl : (W2.alloc (.cells #[.nilIface] 32)).heap[W2.heap.size]? = some (.cells #[.nilIface] 32 (0, 0)) := heap_alloc_new W2 _
    have htr : Calls Tryd.prog 66 #[.pointer (some ⟨J, 0, none⟩), .pointer (some ⟨O, 0, none⟩)] (W2.alloc (.cells #[.nilIface] 32)) (TriedP W2.heap.size (fun W => OkB W O (isNumL t) ∧ GX [O] W2 W) (fun bf W => OkB W O false ∧ GX [O] W2 W ∧ isNumL t = false)) := by
      refine hnc.mono ?_
      rintro e W' (⟨rfl, h1, h2⟩ | ⟨bf, rfl, h1, h2, h3⟩)
      · exact ⟨h2.heap (by simp; rw [s2, hO]; omega) hnl, .inl ⟨rfl, h1, (GX.q ((Q.refl W2).alloc _)).trans h2⟩⟩
      · exact ⟨h2.heap (by simp; rw [s2, hO]; omega) hnl, .inr ⟨bf, rfl, h1, (GX.q ((Q.refl W2).alloc _)).trans h2, h3⟩⟩
    have HTr := Lib.hid htr
    clear hW2 e2 q2 s2 hnc hnl htr hO x0
    have HTry := Lib.hid (try_any 66 #[.pointer (some ⟨J, 0, none⟩), .pointer (some ⟨O, 0, none⟩)] (enters_of Tryd.func66 (by kernel_rfl) rfl) _ _ W2 (fun X Y h hg => ⟨hg.heap (by simp; rw [HS2.out]; omega) h.1, h.2.sub hg (fun k hk => by simp at hk; right; omega)⟩) (fun bf X Y h hg => ⟨hg.heap (by simp; rw [HS2.out]; omega) h.1, h.2.1.sub hg (fun k hk => by simp at hk; right; omega), h.2.2⟩) HTr.out)
    go_wp2_with fail
    refine HTry.out.mono ?_
    intro e W3 hT
    have hcase : ∃ v, e = .returned v ∧ ((v = .nilIface ∧ OkB W3 O (isNumL t)) ∨ ((∃ bf, v = .iface 76 (.pointer (some ⟨bf, 0, none⟩))) ∧ OkB W3 O false ∧ isNumL t = false)) ∧ GX [O] W2 W3 := by
      rcases hT with ⟨rfl, h1, h2⟩ | ⟨bf, rfl, h1, h2, h3⟩
      · exact ⟨_, rfl, .inl ⟨rfl, h1⟩, h2⟩
      · exact ⟨_, rfl, .inr ⟨⟨bf, rfl⟩, h1, h3⟩, h2⟩
    obtain ⟨ev, rfl, hcs, hg⟩ := hcase
    have HG := Lib.hid hg
    have HWR3 : Hid (WR B b f W3) := Lib.hid (by
      obtain ⟨l, h1, h2, h3⟩ := HWR.out.q HQ2.out
      refine ⟨l, h1.grown (row := some O) ⟨hg.os, hg.tape, hg.output, hg.size, fun k hk hn => hg.block k hk (by simpa using fun e : k = O => hn (by rw [e]))⟩ ?_, h2, h3⟩
      rintro r o e ho
      injection e with e
      subst e
      refine ⟨fun c fz e2 => ?_, by have := H.out.hi; have := H.out.sz; have := HQ1.out.size; have := HO.out; omega⟩
      have h4 : W2.heap[O]? = _ := HO2.out
      rw [ho] at h4
      injection h4 with h4
      rw [h4] at e2
      injection e2 with _ e2 _
      exact absurd e2 (by decide))
    have HQ3 : Hid (Q w W3) := Lib.hid (hg.toQ (HQ1.out.trans HQ2.out) (fun k hk => by simp at hk; have := HQ1.out.size; have := HO.out; omega))
    have HCs := Lib.hid hcs
    have x1 : W3.cell? ⟨J, 1, none⟩ = some (.string ⟨t.toArray⟩) := hg.cellJ (by simp; omega) (HQ2.out.cell x1)
    have HP := Lib.hid (put_any B b f t W3 HWR3.out (Nat.le_trans H.out.sz HQ3.out.size) hlt)
    clear hT hcs hg HTry HTr
    go_upto_region 27 with (fail)
    go_wp2_with fail
    refine HP.out.mono ?_
    rintro e W4 ⟨rfl, hw4, hk4⟩
    have HO4 : Hid (∀ c, OkB W3 O c → OkB W4 O c) := Lib.hid (fun c h => hk4.block O _ h (by have := H.out.hi; have := H.out.sz; have := HQ1.out.size; have := HO.out; omega) (.inr fun c fz e => by injection e with _ e _; exact absurd e (by decide)))
    have HX : Hid (ValW B b f (.mk 4 t ns []) w (.returned (.bool (isNumL t))) W4) := Lib.hid ⟨by rw [num_four], (KW.q HQ3.out).trans hk4, fun _ => by rw [writeJ]; exact hw4⟩
    clear hw4 hk4 x1
    rcases HCs.out with ⟨rfl, hc⟩ | ⟨⟨bf, rfl⟩, hc, hn⟩
    · have hc4 := HO4.out _ hc
      obtain ⟨c, hcc⟩ : ∃ c, isNumL t = c := ⟨_, rfl⟩
      rw [hcc] at HX hc4
      have y0 : W4.cell? ⟨O, 0, none⟩ = some (.bool c) := by rw [cell_of_row _ _ _ _ _ _ hc4]; rfl
      clear hc hc4 hcc
      cases c with
      | false =>
        go_wp2_with fail
        go_ret
        exact HX.out
      | true =>
        go_wp2_with fail
        go_ret
        exact HX.out
    · have hc4 := HO4.out _ hc
      have y0 : W4.cell? ⟨O, 0, none⟩ = some (.bool false) := by rw [cell_of_row _ _ _ _ _ _ hc4]; rfl
      rw [hn] at HX
      clear hc hc4 hn
      go_wp2_with fail
      go_ret
      exact HX.out
  · have HP := Lib.hid (qtext_any B b f t W1 HWR.out HSz.out (by omega))
    have HF := Lib.hid (fun e w2 => HFin.out e w2 (quoteJ t) (by rw [writeJ]; rfl) (num_leaf (by decide)))
    have x1 : W1.cell? ⟨J, 1, none⟩ = some (.string ⟨t.toArray⟩) := by rw [cell_of_row _ _ _ _ _ _ HE1.out]; rfl
    go_wp2_with fail
    refine HP.out.mono ?_
    intro e w2 hp
    obtain ⟨rfl, hx⟩ := HF.out e w2 hp
    have HX := Lib.hid hx
    clear hx hp x0 x1
    go_wp2_with fail
    go_ret
    exact HX.out
  · exact absurd rfl hk.1
  · exact absurd rfl hk.2
  · have HP := Lib.hid (put_any B b f [110, 117, 108, 108] W1 HWR.out HSz.out (by simp))
    have HF := Lib.hid (fun e w2 => HFin.out e w2 [110, 117, 108, 108] (by rw [writeJ]; rfl) (num_leaf (by decide)))
    go_wp2_with fail
    refine HP.out.mono ?_
    intro e w2 hp
    obtain ⟨rfl, hx⟩ := HF.out e w2 hp
    have HX := Lib.hid hx
    clear hx hp x0
    go_wp2_with fail
    go_ret
    exact HX.out
  · have HP := Lib.hid (put_any B b f [102, 97, 108, 115, 101] W1 HWR.out HSz.out (by simp))
    have HF := Lib.hid (fun e w2 => HFin.out e w2 [102, 97, 108, 115, 101] (by rw [writeJ]; rfl) (num_leaf (by decide)))
    go_wp2_with fail
    refine HP.out.mono ?_
    intro e w2 hp
    obtain ⟨rfl, hx⟩ := HF.out e w2 hp
    have HX := Lib.hid hx
    clear hx hp x0
    go_wp2_with fail
    go_ret
    exact HX.out
  · have HP := Lib.hid (put_any B b f [116, 114, 117, 101] W1 HWR.out HSz.out (by simp))
    have HF := Lib.hid (fun e w2 => HFin.out e w2 [116, 114, 117, 101] (by rw [writeJ]; rfl) (num_leaf (by decide)))
    go_wp2_with fail
    refine HP.out.mono ?_
    intro e w2 hp
    obtain ⟨rfl, hx⟩ := HF.out e w2 hp
    have HX := Lib.hid hx
    clear hx hp x0
    go_wp2_with fail
    go_ret
    exact HX.out
end Go.Proofs.YtlhhiiemojhjdaaDoor
