/- Texts of this proof, laid into one: PaF, PaG, PaH, PaV, PaI. -/
import Derived.Test.YtbhgekhcpagkoaaDoorMh03
import Derived.Laws.CopyRow
import Derived.Laws.OwnMore
import Derived.Laws.Rows
import Derived.Laws.ResultCell
import Derived.Laws.CopyOwn
import Derived.SizedLaws
import Derived.Deep.Slices
/- Parts: make, copy and append of whole slices of parts. -/
set_option linter.unusedVariables false
set_option linter.unusedSimpArgs false
namespace Go.Proofs.YtbhgekhcpagkoaaDoor
open Go Go.RowKit
theorem infoP : (Tryd.prog.info? 31).map (·.size) = some 5 := by kernel_rfl
theorem PartsAt.cells {w : World} {g off n : Nat} {ps : List PartD} (h : PartsAt w (some ⟨g, off, none⟩) n ps) : ∀ j u, (cellsP ps)[j]? = some u → w.cell? (Addr.add ⟨g, off, none⟩ j) = some u := by
  intro j u hu
  have hj : j < ps.length * 5 := by have := (List.getElem?_eq_some_iff.1 hu).1; rwa [cellsP_len] at this
  obtain ⟨g', off', e, hg, hc⟩ := h.2 (by rw [h.1]; omega)
  cases e
  have e1 : (Addr.add ⟨g, off, none⟩ j) = ⟨g, off + j, none⟩ := by unfold Addr.add; split <;> simp_all
  have hq : j / 5 < ps.length := by omega
  have e2 := cellsP_at ps (j / 5) hq (j % 5) (by omega)
  rw [show j / 5 * 5 + j % 5 = j by omega, hu] at e2
  rw [e1, show off + j = off + j / 5 * 5 + j % 5 by omega]
  exact hc (j / 5) hq (j % 5) u e2.symm
theorem PartsAt.take {w : World} {A : Option Addr} {n : Nat} {ps : List PartD} (h : PartsAt w A n ps) (k : Nat) (hk : k ≤ n) : PartsAt w A k (ps.take k) := by
  refine ⟨by rw [List.length_take, ← h.1]; omega, fun h0 => ?_⟩
  obtain ⟨g, off, e, hg, hc⟩ := h.2 (by omega)
  exact ⟨g, off, e, hg, fun j hj i v hv => hc j (by rw [List.length_take] at hj; omega) i v (by rw [List.getElem_take] at hv; exact hv)⟩
theorem PartsAt.drop {w : World} {g off n : Nat} {ps : List PartD} (h : PartsAt w (some ⟨g, off, none⟩) n ps) (k : Nat) (hk : k ≤ n) : PartsAt w (some ⟨g, off + k * 5, none⟩) (n - k) (ps.drop k) := by
  refine ⟨by rw [List.length_drop, ← h.1], fun h0 => ?_⟩
  obtain ⟨g', off', e, hg, hc⟩ := h.2 (by omega)
  cases e
  refine ⟨g, off + k * 5, rfl, hg, fun j hj i v hv => ?_⟩
  rw [List.length_drop] at hj
  have := hc (k + j) (by omega) i v (by rw [List.getElem_drop] at hv; exact hv)
  rwa [show off + (k + j) * 5 + i = off + k * 5 + j * 5 + i by omega] at this
theorem made_p (n : Nat) : (madeCells (Value.agg #[.int .i64 0, .int .i64 0, .int .i64 0, .string ⟨#[]⟩, .int .i64 0]).cells (n * 5)).toList = cellsP (List.replicate n default) := by
  apply List.ext_getElem?
  intro j
  by_cases hj : j < n * 5
  · have hq : j / 5 < (List.replicate n (default : PartD)).length := by simp; omega
    have e2 := cellsP_at (List.replicate n (default : PartD)) (j / 5) hq (j % 5) (by omega)
    rw [show j / 5 * 5 + j % 5 = j by omega] at e2
    rw [e2, List.getElem_replicate]
    have h5 : j % 5 < 5 := by omega
    simp only [madeCells, Value.cells, Array.toList_map, List.getElem?_map]
    rw [show (Array.range (n * 5)).toList[j]? = some j by simp [hj]]
    simp only [Option.map_some]
    have : ∀ m, m < 5 → some ((#[Value.int .i64 0, .int .i64 0, .int .i64 0, .string ⟨#[]⟩, .int .i64 0] : Array Value)[m]!) = (partL (default : PartD))[m]? := by
      intro m hm
      match m, hm with
      | 0, _ => rfl
      | 1, _ => rfl
      | 2, _ => rfl
      | 3, _ => rfl
      | 4, _ => rfl
    exact this _ h5
  · rw [List.getElem?_eq_none (by simp [madeCells]; omega), List.getElem?_eq_none (by rw [cellsP_len]; simp; omega)]
theorem cellsP_take (ps : List PartD) (k : Nat) : (cellsP ps).take (k * 5) = cellsP (ps.take k) := by
  rcases Nat.lt_or_ge ps.length k with h | h
  · rw [List.take_of_length_le (by rw [cellsP_len]; omega), List.take_of_length_le (by omega)]
  · have e : cellsP ps = cellsP (ps.take k) ++ cellsP (ps.drop k) := by rw [← cellsP_app, List.take_append_drop]
    have hl : (cellsP (ps.take k)).length = k * 5 := by rw [cellsP_len, List.length_take]; omega
    rw [e, ← hl, List.take_left]
theorem cellsP_drop (ps : List PartD) (k : Nat) : (cellsP ps).drop (k * 5) = cellsP (ps.drop k) := by
  rcases Nat.lt_or_ge ps.length k with h | h
  · rw [List.drop_eq_nil_of_le (by rw [cellsP_len]; omega), List.drop_eq_nil_of_le (by omega)]; rfl
  · have e : cellsP ps = cellsP (ps.take k) ++ cellsP (ps.drop k) := by rw [← cellsP_app, List.take_append_drop]
    have hl : (cellsP (ps.take k)).length = k * 5 := by rw [cellsP_len, List.length_take]; omega
    rw [e, ← hl, List.drop_left]
theorem make_parts (w : World) (l c : Nat) (hlc : l ≤ c) (hb : (48 : Int) * c ≤ 281474976710656) :
    ∃ w', (Instr.makeSlice 22 (.int .i64 (l : Int)) (.int .i64 (c : Int))).run Tryd.prog w = .ok (.slice (some ⟨w.heap.size, 0, none⟩) l c) w' ∧ OwnP w w' (.slice (some ⟨w.heap.size, 0, none⟩) l c) (List.replicate l default) ∧ Q w w' := by
  obtain ⟨i, hi, hz, hsz, hby⟩ := info_parts info_part
  have h := run_make (P := Tryd.prog) w 22 31 i _ Tryd.underlying22 hi hz .i64 .i64 (l : Int) (c : Int) (by omega) (by omega) (by rw [hby]; exact hb) (by omega)
  rw [hsz, Int.toNat_natCast, Int.toNat_natCast] at h
  refine ⟨_, h, ⟨by rw [cellsP_len], .inr ⟨w.heap.size, c, _, by rw [List.length_replicate], Nat.le_refl _, (MapKept.heap_alloc w _).1, by rw [List.length_replicate]; exact hlc, by unfold maxLen; omega, by rw [size_madeCells], ?_⟩⟩, (Q.refl w).alloc _⟩
  rw [made_p, List.length_replicate, cellsP_take, List.take_replicate, Nat.min_eq_left hlc]
/-- copy. -/
theorem copy_parts (w0 w : World) (g dLen cap n sCap : Nat) (A : Option Addr) (qs ps : List PartD) (h : OwnP w0 w (.slice (some ⟨g, 0, none⟩) dLen cap) qs) (hd : qs.length = dLen) (hp : PartsAt w A n ps) (ty : TypeId) :
    ∃ w', (Builtin.copy_ #[22, 22] ty #[.slice (some ⟨g, 0, none⟩) dLen cap, .slice A n sCap]).run Tryd.prog w = .ok (.int .i64 (min n dLen : Nat)) w' ∧ OwnP w0 w' (.slice (some ⟨g, 0, none⟩) dLen cap) (ps.take dLen ++ qs.drop n) ∧ w.grownBy w' (some g) := by
  have hu := Tryd.underlying22
  obtain ⟨i, hi, hz, hsz, hby⟩ := info_parts info_part
  rcases h.2 with ⟨h1, _⟩ | ⟨g', cap', cur, hv, hb, hh, hn, hm, hcs, ht⟩
  · cases h1
  obtain ⟨rfl, rfl⟩ : g' = g ∧ cap' = cap := by cases hv; exact ⟨rfl, rfl⟩
  obtain ⟨m, hmm⟩ : ∃ m, m = min n dLen := ⟨_, rfl⟩
  have hmin : Nat.min n dLen = m := hmm.symm
  have hpn := hp.1
  have e1 : ps.take dLen = ps.take m := by
    rcases Nat.le_total n dLen with hl | hl
    · rw [List.take_of_length_le (by omega), List.take_of_length_le (by omega)]
    · rw [show m = dLen by omega]
  have e2 : qs.drop n = qs.drop m := by
    rcases Nat.le_total n dLen with hl | hl
    · rw [show m = n by omega]
    · rw [List.drop_eq_nil_of_le (by omega), List.drop_eq_nil_of_le (by omega)]
  have hcl : (cellsP (ps.take m)).length = m * 5 := by rw [cellsP_len, List.length_take]; omega
  have hown : ∀ w' : World, w'.heap[g']? = some (.cells ((cellsP (ps.take m)) ++ cur.toList.drop (m * 5)).toArray 31 (0, 0)) → OwnP w0 w' (.slice (some ⟨g', 0, none⟩) dLen cap') (ps.take dLen ++ qs.drop n) := by
    intro w' hw
    rw [e1, e2]
    have hlen : (ps.take m ++ qs.drop m).length = dLen := by rw [List.length_append, List.length_take, List.length_drop]; omega
    refine ⟨by rw [cellsP_len], .inr ⟨g', cap', _, by rw [hlen], hb, hw, by rw [hlen]; omega, hm, ?_, ?_⟩⟩
    · simp only [List.size_toArray, List.length_append, hcl, List.length_drop, Array.length_toList]; omega
    · rw [hlen, cellsP_app, ← cellsP_drop, ← ht, List.take_append, List.take_of_length_le (by omega), hcl, hd, List.drop_take]
  refine ⟨w.setRow g' ((cellsP (ps.take m)) ++ cur.toList.drop (m * 5)).toArray, ?_, hown _ (setRow_heap w g' cur _ _ _ hh), ?_⟩
  · rw [← hmm]
    by_cases h0 : m = 0
    · have e3 : ((cellsP (ps.take m)) ++ cur.toList.drop (m * 5)).toArray = cur := by subst h0; simp [cellsP]
      rw [e3, setRow_self w g' cur _ _ hh]
      rw [h0] at hmin ⊢
      cases A with
      | none => simp [Builtin.copy_, run_underlying hu, Builtin.lenOf, Builtin.firstCells, sizeOf, typeInfo, hi, storeCells, hmin, goInt]
      | some a => simp [Builtin.copy_, run_underlying hu, Builtin.lenOf, Builtin.firstCells, sizeOf, typeInfo, hi, storeCells, hmin, goInt, loadCells, loadCellsFrom]
    · obtain ⟨g2, off2, rfl, _⟩ := hp.2 (by omega)
      have hc := (hp.take m (by omega)).cells
      have hl := run_loadCells_list (P := Tryd.prog) w ⟨g2, off2, none⟩ (cellsP (ps.take m)) hc
      have hst := run_storeCells_at Tryd.prog g' 0 31 (cellsP (ps.take m)) 0 cur w hh (by rw [hcl]; omega) (cellsP_one' _)
      rw [hcl] at hl hst
      simp only [Nat.zero_add, List.take_zero, List.nil_append] at hst
      simp [Builtin.copy_, run_underlying hu, Builtin.lenOf, Builtin.firstCells, sizeOf, typeInfo, hi, hsz, hmin, hl, hst, goInt]
  · exact ⟨rfl, rfl, rfl, by simp [World.setRow], fun k _ hk => setRow_other w g' k _ (fun e => hk (by rw [e]))⟩
end Go.Proofs.YtbhgekhcpagkoaaDoor
/- Parts: append of whole slices of parts. -/
set_option linter.unusedVariables false
set_option linter.unusedSimpArgs false
namespace Go.Proofs.YtbhgekhcpagkoaaDoor
open Go Go.RowKit
theorem append_parts (w0 w : World) (v : Value) (ls ps : List PartD) (A : Option Addr) (n c : Nat) (ty : TypeId) (hown : OwnP w0 w v ls) (hp : PartsAt w A n ps) (hb : (ls.length + n) * 48 ≤ 140737488355328) (hq : Q w0 w) :
    ∃ v' w', (Builtin.append_ #[22, 22] ty #[v, .slice A n c]).run Tryd.prog w = .ok v' w' ∧ OwnP w0 w' v' (ls ++ ps) ∧ Q w0 w' ∧ w.grownBy w' v.ownBlock := by
  obtain ⟨i, hi, hz, hsz, hby⟩ := info_parts info_part
  have hA : ∀ k, v.ownBlock = some k → w0.heap.size ≤ k := fun k hk => (hown.block hk).1
  have hpn := hp.1
  cases A with
  | some ad =>
    have hnews : ∀ j u, (cellsP ps)[j]? = some u → w.cell? (ad.add j) = some u := by
      intro j u hu
      have hj : j < ps.length * 5 := by have := (List.getElem?_eq_some_iff.1 hu).1; rwa [cellsP_len] at this
      obtain ⟨g, off, e, _⟩ := hp.2 (by omega)
      cases e
      exact hp.cells j u hu
    obtain ⟨v', w', hr, h2, h3, _, h5⟩ := run_append_own_at (P := Tryd.prog) w w0.heap.size 22 ty 31 i _ 5 48 Tryd.underlying22 hi hz hsz hby rfl (by decide) v ls.length (cellsP ls) hown ad n c (cellsP ps) (by rw [cellsP_len, ← hpn]) hnews (cellsP_one' _) (by unfold maxLen; omega) hb hq.size
    refine ⟨v', w', hr, ?_, Below.grown hq h3 hq.size (fun k hk => hA k hk), h3⟩
    unfold OwnP
    rw [cellsP_app, List.length_append, ← hpn]
    exact h2
  | none =>
    obtain rfl : n = 0 := by
      rcases Nat.eq_zero_or_pos n with h | h
      · exact h
      · obtain ⟨g, off, e, _⟩ := hp.2 h; cases e
    obtain rfl : ps = [] := List.eq_nil_of_length_eq_zero hpn.symm
    have hu := Tryd.underlying22
    refine ⟨v, w, ?_, by rw [List.append_nil]; exact hown, hq, ⟨rfl, rfl, rfl, Nat.le_refl _, fun _ _ _ => rfl⟩⟩
    rcases hown.2 with ⟨rfl, h0⟩ | ⟨g, cap, cur, rfl, h1, h2, h3, _⟩
    · simp [Builtin.append_, run_underlying hu, sizeOf, typeInfo, hi, Builtin.lenOf, Builtin.firstCells]
    · simp [Builtin.append_, run_underlying hu, sizeOf, typeInfo, hi, Builtin.lenOf, h3, Builtin.firstCells, storeCells]
/-- append(l, x...). -/
theorem wpList_append_ps {ops : Array Oper} {rest : List Oper} {o : Oper} {a : Act} {R : Exit → Act → World → Prop} (hgd : o.guard = none) (s x : Operand)
    (ho : o.op = .call { callee := .builtin .append, args := #[s, x], argTypes := #[22, 22] })
    (w0 W : World) (v : Value) (ls ps : List PartD) (A : Option Addr) (n c : Nat) (hs : a.eval s = v) (hown : OwnP w0 W v ls) (hx : a.eval x = .slice A n c) (hp : PartsAt W A n ps) (hq : Q w0 W) (hb : (ls.length + n) * 48 ≤ 140737488355328)
    (h : ∀ v' w', OwnP w0 w' v' (ls ++ ps) → Q w0 w' → W.grownBy w' v.ownBlock → wpList Tryd.prog ops R rest (a.put o.dst v') w') : wpList Tryd.prog ops R (o :: rest) a W := by
  obtain ⟨v', w', hr, h2, h3, h4⟩ := append_parts w0 W v ls ps A n c o.type hown hp hb hq
  refine wpList_plain hgd fun K hK => ?_
  unfold Oper.wp execOp
  simp only [ho, resolve, invoke, builtin, Sem.run_bind, Sem.run_pure, Result.andThen_ok, List.map_toArray, List.map_cons, List.map_nil, hs, hx, hr]
  exact hK _ _ (h v' w' h2 h3 h4)
/-- copy(l, x). -/
theorem wpList_copy_ps {ops : Array Oper} {rest : List Oper} {o : Oper} {a : Act} {R : Exit → Act → World → Prop} (hgd : o.guard = none) (s x : Operand)
    (ho : o.op = .call { callee := .builtin .copy, args := #[s, x], argTypes := #[22, 22] })
    (w0 W : World) (g dLen cap : Nat) (qs ps : List PartD) (A : Option Addr) (n c : Nat) (hs : a.eval s = .slice (some ⟨g, 0, none⟩) dLen cap) (hown : OwnP w0 W (.slice (some ⟨g, 0, none⟩) dLen cap) qs) (hd : qs.length = dLen) (hx : a.eval x = .slice A n c) (hp : PartsAt W A n ps) (hq : Q w0 W)
    (h : ∀ w', OwnP w0 w' (.slice (some ⟨g, 0, none⟩) dLen cap) (ps.take dLen ++ qs.drop n) → Q w0 w' → W.grownBy w' (some g) → wpList Tryd.prog ops R rest (a.put o.dst (.int .i64 (min n dLen : Nat))) w') : wpList Tryd.prog ops R (o :: rest) a W := by
  obtain ⟨w', hr, h2, h3⟩ := copy_parts w0 W g dLen cap n c A qs ps hown hd hp o.type
  refine wpList_plain hgd fun K hK => ?_
  unfold Oper.wp execOp
  simp only [ho, resolve, invoke, builtin, Sem.run_bind, Sem.run_pure, Result.andThen_ok, List.map_toArray, List.map_cons, List.map_nil, hs, hx, hr]
  exact hK _ _ (h w' h2 (Below.grown hq h3 hq.size (fun k hk => by cases hk; exact (hown.block rfl).1)) h3)
end Go.Proofs.YtbhgekhcpagkoaaDoor
/- parts.Put. -/
set_option linter.unusedVariables false
set_option linter.unusedSimpArgs false
namespace Go.Proofs.YtbhgekhcpagkoaaDoor
open Go Go.RowKit
/-- An upload, but for its parts. -/
structure UpD where
  seq : Int
  bucket : List UInt8
  key : List UInt8
  type : List UInt8
  owner : List UInt8
  time : Int
def upL (u : UpD) (v : Value) : List Value := [.int .i64 u.seq, .string ⟨u.bucket.toArray⟩, .string ⟨u.key.toArray⟩, .string ⟨u.type.toArray⟩, .string ⟨u.owner.toArray⟩, .int .i64 u.time, v]
def upV (u : UpD) (v : Value) : Value := .agg (upL u v).toArray
def zU : UpD := ⟨0, [], [], [], [], 0⟩
def BoxU (w : World) (b : Nat) (u : UpD) (v : Value) : Prop := w.heap[b]? = some (.cells (upL u v).toArray 26 (0, 0))
theorem BoxU.new (w : World) (u : UpD) (v : Value) : BoxU (w.alloc (.cells (upL u v).toArray 26)) w.heap.size u v := (MapKept.heap_alloc w _).1
theorem BoxU.q {w w' : World} {b : Nat} {u : UpD} {v : Value} (h : BoxU w b u v) (hq : Q w w') : BoxU w' b u v := hq.block h
theorem BoxU.c6 {w : World} {b : Nat} {u : UpD} {v : Value} (h : BoxU w b u v) : w.cell? ⟨b, 6, none⟩ = some v := by rw [cell_of_row _ _ _ _ _ _ h]; rfl
theorem BoxU.fz {w : World} {b : Nat} {u : UpD} {v : Value} (h : BoxU w b u v) (i : Nat) : w.frozen? ⟨b, i, none⟩ = false := frozen_of_row w b i _ _ h
theorem BoxU.set6 {w : World} {b : Nat} {u : UpD} {v : Value} (h : BoxU w b u v) (x : Value) : BoxU (w.setCell ⟨b, 6, none⟩ x) b u x := by
  unfold BoxU; rw [heap_setCell_any w b 6 _ _ _ _ h]; rfl
theorem infoU : (Tryd.prog.info? 26).map (·.size) = some 7 := by kernel_rfl
/-- Where a number belongs. -/
def atP (ps : List PartD) (x : Int) : Nat := ps.findIdx fun q => decide (x ≤ q.num)
def putL (ps : List PartD) (p : PartD) : List PartD :=
  ps.take (atP ps p.num) ++ p :: ps.drop (if atP ps p.num < ps.length ∧ (gP ps (atP ps p.num)).num = p.num then atP ps p.num + 1 else atP ps p.num)
theorem right_len {ps : List PartD} (h : rightB ps = true) : ps.length ≤ 20 := by
  unfold rightB at h
  simp only [Bool.and_eq_true] at h
  obtain ⟨hr, hm⟩ := h
  have h1 : ∀ j, j < ps.length → (j : Int) + 1 ≤ (gP ps j).num := by
    intro j
    induction j with
    | zero =>
      intro hj
      have := all_gP.1 hm 0 hj
      unfold mayB at this
      simp at this
      omega
    | succ j ih =>
      intro hj
      have h2 := ih (by omega)
      have h3 := riseB_spec hr j hj
      omega
  rcases Nat.eq_zero_or_pos ps.length with h0 | h0
  · omega
  · have h2 := h1 (ps.length - 1) (by omega)
    have h3 := all_gP.1 hm (ps.length - 1) (by omega)
    unfold mayB at h3
    simp at h3
    omega
/-- The boxes of Put: the upload, the part, the result. -/
structure PutB (w0 : World) (N0 : Nat) (u : UpD) (v : Value) (p : PartD) (u2 : UpD) (v2 : Value) (w : World) : Prop where
  bu : BoxU w N0 u v
  bp : BoxP w (N0 + 1) p
  br : BoxU w (N0 + 1 + 1) u2 v2
  q : Q w0 w
  sz : w0.heap.size = N0
theorem PutB.start (w : World) (u : UpD) (v : Value) (p : PartD) (u2 : UpD) (v2 : Value) (w1 : World) (hq : Q (((w.alloc (.cells (upL u v).toArray 26)).alloc (.cells (partL p).toArray 31)).alloc (.cells (upL u2 v2).toArray 26)) w1) : PutB w w.heap.size u v p u2 v2 w1 := by
  have h0 := BoxU.new w u v
  generalize hA : w.alloc (.cells (upL u v).toArray 26) = A at *
  have h1 := BoxP.new A p
  have sA : A.heap.size = w.heap.size + 1 := by rw [← hA]; simp
  have qA : Q w A := by rw [← hA]; exact (Q.refl _).alloc _
  have qB : Q A (A.alloc (.cells (partL p).toArray 31)) := (Q.refl _).alloc _
  have sB : (A.alloc (.cells (partL p).toArray 31)).heap.size = w.heap.size + 1 + 1 := by simp [sA]
  generalize A.alloc (.cells (partL p).toArray 31) = B at *
  have h2 := BoxU.new B u2 v2
  have qC : Q B (B.alloc (.cells (upL u2 v2).toArray 26)) := (Q.refl _).alloc _
  generalize B.alloc (.cells (upL u2 v2).toArray 26) = C at *
  rw [sA] at h1; rw [sB] at h2
  exact ⟨((h0.q qB).q qC).q hq, (h1.q qC).q hq, h2.q hq, ((qA.trans qB).trans qC).trans hq, rfl⟩
theorem PutB.go {w0 w w' : World} {N0 : Nat} {u : UpD} {v : Value} {p : PartD} {u2 : UpD} {v2 : Value} (h : PutB w0 N0 u v p u2 v2 w) (hq : Q w w') : PutB w0 N0 u v p u2 v2 w' := ⟨h.bu.q hq, h.bp.q hq, h.br.q hq, h.q.trans hq, h.sz⟩
theorem upL_one (u : UpD) (v : Value) (hv : v.oneCell' = true) : (upL u v).toArray.all (·.oneCell') = true := by
  rw [List.all_toArray]
  simp only [upL, List.all_cons, hv, List.all_nil, Bool.and_true]
  rfl
theorem results_up {fn : Func} {p q : Tmp} (h : fn.results = #[.cell p 26, .tmp q]) {tmps : Array Value} {w : World} {g : Nat} {u : UpD} {v : Value} (hp : tmps[p]?.getD undef = .pointer (some ⟨g, 0, none⟩)) (hb : BoxU w g u v) :
    (results fn tmps).run Tryd.prog w = .ok (.tuple #[upV u v, tmps.getD q undef]) w := by
  rw [results_cell_tmp h]
  have h1 := run_loadVar_row w g 26 26 _ _ _ hb Tryd.underlying26 rfl infoU
  simp [hp, asAddr, Result.andThen, h1, upV]
theorem PutB.put {w0 w : World} {N0 : Nat} {u : UpD} {v : Value} {p : PartD} {u2 : UpD} {v2 : Value} (h : PutB w0 N0 u v p u2 v2 w) (u3 : UpD) (v3 : Value) : BoxU (w.setRow (N0 + 1 + 1) (upL u3 v3).toArray) (N0 + 1 + 1) u3 v3 ∧ Q w0 (w.setRow (N0 + 1 + 1) (upL u3 v3).toArray) :=
  ⟨setRow_heap w _ _ _ _ _ h.br, h.q.below (below_setRow (Below.refl _ _) (by have := h.sz; omega) _)⟩
set_option maxRecDepth 100000 in
set_option maxHeartbeats 4000000 in
theorem Put_bad (u : UpD) (A : Option Addr) (n cap : Nat) (ps : List PartD) (p : PartD) (w : World) (h : PartsAt w A n ps) (hok : OkP ps) (hp : p.tag.length ≤ 140737488355328) (hn : n ≤ 9223372036854775807) (hb : (rightB ps && mayB p) = false) :
    Calls Tryd.prog 10 #[upV u (.slice A n cap), partV p] w fun e w' => e = .returned (.tuple #[upV zU (.slice none 0 0), .int .i64 1]) ∧ Q w w' := by
  obtain ⟨seq, bucket, key, type, owner, time⟩ := u
  have hm := Lib.hid (fun w => may_any p w hp)
  obtain ⟨num, size, time2, tag, blob⟩ := p
  unfold upV upL partV partL at *
  simp only at hm ⊢
  go_enter Tryd.func10, Tryd.ntmps10
  go_wp2_with fail
  refine (right_any A n cap ps _ (h.q (((Q.refl w).alloc _).alloc _ |>.alloc _)) hok hn).mono ?_
  rintro e w1 ⟨rfl, hq⟩
  have hB := PutB.start w ⟨seq, bucket, key, type, owner, time⟩ (.slice A n cap) ⟨num, size, time2, tag, blob⟩ zU (.slice none 0 0) w1 hq
  clear hq
  cases hr : rightB ps with
  | false =>
    generalize w.heap.size = N0 at *
    go_wp2_with (refine wpList_store_row rfl 26 _ _ rfl (N0 + 1 + 1) (upL zU (.slice none 0 0)).toArray (by rfl) (by rfl) 26 _ hB.br infoU rfl (upL_one _ _ rfl) ?_)
    obtain ⟨h1, h2⟩ := hB.put zU (.slice none 0 0)
    exact bodyPost_ret (results_up rfl (by rfl) h1) rfl ⟨rfl, h2⟩
  | true =>
    have hmf : mayB ⟨num, size, time2, tag, blob⟩ = false := by rw [hr] at hb; simpa using hb
    have c0 := hB.bp.c0
    have c1 := hB.bp.c1
    have c2 := hB.bp.c2
    have c3 := hB.bp.c3
    have c4 := hB.bp.c4
    generalize w.heap.size = N0 at *
    go_wp2_with fail
    refine (hm.out _).mono ?_
    rintro e w2 ⟨rfl, hq2⟩
    rw [hmf]
    have hB := hB.go hq2
    clear c0 c1 c2 c3 c4 hq2
    go_wp2_with (refine wpList_store_row rfl 26 _ _ rfl (N0 + 1 + 1) (upL zU (.slice none 0 0)).toArray (by rfl) (by rfl) 26 _ hB.br infoU rfl (upL_one _ _ rfl) ?_)
    obtain ⟨h1, h2⟩ := hB.put zU (.slice none 0 0)
    exact bodyPost_ret (results_up rfl (by rfl) h1) rfl ⟨rfl, h2⟩
end Go.Proofs.YtbhgekhcpagkoaaDoor
/- Arguments that came in, opened: slices of parts, an upload, slices of bools. -/
set_option linter.unusedVariables false
namespace Go.Proofs.YtbhgekhcpagkoaaDoor
open Go Go.RowKit Go.ChangeShapes Go.WideShapes Go.Deep
theorem weights_mem_all {H : Type} {P : Program} {e : TypeId} {ds : List (DataW H)} {d : DataW H} {x : Nat} (hd : d ∈ ds) (hx : x ∈ d.weights P e) : x ∈ DataW.weightsAll P e ds := by
  induction ds with
  | nil => cases hd
  | cons a r ih =>
    simp only [DataW.weightsAll, List.mem_append]
    rcases List.mem_cons.1 hd with h | h
    · subst h; exact .inl hx
    · exact .inr (ih h)
theorem list5 {α : Type} {l : List α} (h : l.length = 5) : ∃ a b c d e, l = [a, b, c, d, e] := by
  match l, h with
  | [a, b, c, d, e], _ => exact ⟨a, b, c, d, e, rfl⟩
theorem list7 {α : Type} {l : List α} (h : l.length = 7) : ∃ a b c d e f g, l = [a, b, c, d, e, f, g] := by
  match l, h with
  | [a, b, c, d, e, f, g], _ => exact ⟨a, b, c, d, e, f, g, rfl⟩
theorem str_back (s : ByteArray) : Value.string s = .string ⟨s.data.toList.toArray⟩ := by cases s; rfl
theorem trod_struct5 {H : Type} {enc : TypeId × Value → H} {P : Program} {w : World} {base : Nat} {spare : Nat → Bool} {held : Bool} {t : TypeId} {f0 f1 f2 f3 f4 : Field} {fuel : Nat} {cs : List Value} {x : DataW H × List MemPlace} (ht : P.underlying t = some (.struct #[f0, f1, f2, f3, f4])) (h : DataW.trod enc P w base spare held fuel t cs = some x) :
    ∃ y0 y1 y2 y3 y4 n, x.1 = .agg [y0.1, y1.1, y2.1, y3.1, y4.1] ∧ cs.length = P.cellsOf t ∧ DataW.trod enc P w base spare held n f0.type ((cs.drop f0.offset).take (P.cellsOf f0.type)) = some y0 ∧
      DataW.trod enc P w base spare held n f1.type ((cs.drop f1.offset).take (P.cellsOf f1.type)) = some y1 ∧ DataW.trod enc P w base spare held n f2.type ((cs.drop f2.offset).take (P.cellsOf f2.type)) = some y2 ∧
      DataW.trod enc P w base spare held n f3.type ((cs.drop f3.offset).take (P.cellsOf f3.type)) = some y3 ∧ DataW.trod enc P w base spare held n f4.type ((cs.drop f4.offset).take (P.cellsOf f4.type)) = some y4 := by
  obtain ⟨xs, n, _, rfl, hl, hlen, hf⟩ := DataW.trod_struct ht h
  obtain ⟨y0, y1, y2, y3, y4, rfl⟩ := list5 (hlen.trans rfl)
  exact ⟨y0, y1, y2, y3, y4, n, by simp, hl, by simpa using hf 0 f0 rfl, by simpa using hf 1 f1 rfl, by simpa using hf 2 f2 rfl, by simpa using hf 3 f3 rfl, by simpa using hf 4 f4 rfl⟩
theorem trod_struct7 {H : Type} {enc : TypeId × Value → H} {P : Program} {w : World} {base : Nat} {spare : Nat → Bool} {held : Bool} {t : TypeId} {f0 f1 f2 f3 f4 f5 f6 : Field} {fuel : Nat} {cs : List Value} {x : DataW H × List MemPlace} (ht : P.underlying t = some (.struct #[f0, f1, f2, f3, f4, f5, f6])) (h : DataW.trod enc P w base spare held fuel t cs = some x) :
    ∃ y0 y1 y2 y3 y4 y5 y6 n, x.1 = .agg [y0.1, y1.1, y2.1, y3.1, y4.1, y5.1, y6.1] ∧ cs.length = P.cellsOf t ∧ DataW.trod enc P w base spare held n f0.type ((cs.drop f0.offset).take (P.cellsOf f0.type)) = some y0 ∧
      DataW.trod enc P w base spare held n f1.type ((cs.drop f1.offset).take (P.cellsOf f1.type)) = some y1 ∧ DataW.trod enc P w base spare held n f2.type ((cs.drop f2.offset).take (P.cellsOf f2.type)) = some y2 ∧
      DataW.trod enc P w base spare held n f3.type ((cs.drop f3.offset).take (P.cellsOf f3.type)) = some y3 ∧ DataW.trod enc P w base spare held n f4.type ((cs.drop f4.offset).take (P.cellsOf f4.type)) = some y4 ∧
      DataW.trod enc P w base spare held n f5.type ((cs.drop f5.offset).take (P.cellsOf f5.type)) = some y5 ∧ DataW.trod enc P w base spare held n f6.type ((cs.drop f6.offset).take (P.cellsOf f6.type)) = some y6 := by
  obtain ⟨xs, n, _, rfl, hl, hlen, hf⟩ := DataW.trod_struct ht h
  obtain ⟨y0, y1, y2, y3, y4, y5, y6, rfl⟩ := list7 (hlen.trans rfl)
  exact ⟨y0, y1, y2, y3, y4, y5, y6, n, by simp, hl, by simpa using hf 0 f0 rfl, by simpa using hf 1 f1 rfl, by simpa using hf 2 f2 rfl, by simpa using hf 3 f3 rfl, by simpa using hf 4 f4 rfl, by simpa using hf 5 f5 rfl, by simpa using hf 6 f6 rfl⟩
section
variable {H : Type} {enc : TypeId × Value → H} {W : World} {sp : Nat → Bool} {hd : Bool}
def partDat (p : PartD) : DataW H := .agg [.lit (.int .i64 p.num), .lit (.int .i64 p.size), .lit (.int .i64 p.time), .lit (.string p.tag), .lit (.int .i64 p.blob)]
theorem int_of {fuel : Nat} {c : Value} {y : DataW H × List MemPlace} (h : DataW.trod enc Tryd.prog W 0 sp hd fuel 3 [c] = some y) : ∃ n, c = .int .i64 n ∧ y.1 = .lit (.int .i64 n) := by
  obtain ⟨n, e, e2, _⟩ := DataW.trod_int Tryd.underlying3 h
  exact ⟨n, by simpa using e, by rw [e2]⟩
theorem str_of {fuel : Nat} {c : Value} {y : DataW H × List MemPlace} (h : DataW.trod enc Tryd.prog W 0 sp hd fuel 9 [c] = some y) : ∃ s : List UInt8, c = .string ⟨s.toArray⟩ ∧ y.1 = .lit (.string s) := by
  obtain ⟨s, e, e2, _⟩ := DataW.trod_string Tryd.underlying9 h
  have e' : c = .string s := by simpa using e
  exact ⟨s.data.toList, e'.trans (str_back s), by rw [e2]⟩
theorem part_of {fuel : Nat} {cs : List Value} {y : DataW H × List MemPlace} (h : DataW.trod enc Tryd.prog W 0 sp hd fuel 31 cs = some y) : ∃ p : PartD, cs = partL p ∧ y.1 = partDat p := by
  obtain ⟨y0, y1, y2, y3, y4, n, hx, hl, g0, g1, g2, g3, g4⟩ := trod_struct5 Tryd.underlying31 h
  have hc : Tryd.prog.cellsOf 31 = 5 := by kernel_rfl
  have hi : Tryd.prog.cellsOf 3 = 1 := by kernel_rfl
  have hs : Tryd.prog.cellsOf 9 = 1 := by kernel_rfl
  rw [hc] at hl
  obtain ⟨c0, c1, c2, c3, c4, rfl⟩ := list5 hl
  simp only [hi, hs, List.drop_zero, List.drop_succ_cons, List.take_succ_cons, List.take_zero] at g0 g1 g2 g3 g4
  obtain ⟨n0, rfl, x0⟩ := int_of g0
  obtain ⟨n1, rfl, x1⟩ := int_of g1
  obtain ⟨n2, rfl, x2⟩ := int_of g2
  obtain ⟨s3, rfl, x3⟩ := str_of g3
  obtain ⟨n4, rfl, x4⟩ := int_of g4
  exact ⟨⟨n0, n1, n2, s3, n4⟩, rfl, by rw [hx, x0, x1, x2, x3, x4]; rfl⟩
theorem part_weigh {p : PartD} : p.tag.length ∈ (partDat (H := H) p).weights Tryd.prog 31 := by
  unfold partDat
  rw [DataW.weights, Tryd.underlying31]
  simp [DataW.weightsEach, DataW.weights]
/-- A slice of parts that came in. -/
theorem parts_of {fuel : Nat} {A : Option Addr} {len cap : Nat} {y : DataW H × List MemPlace} (h : DataW.trod enc Tryd.prog W 0 (fun _ => true) hd fuel 22 [.slice A len cap] = some y) (hz : ∀ x ∈ y.1.weights Tryd.prog 22, x ≤ reachBytes) :
    ∃ ps, PartsAt W A len ps ∧ OkP ps ∧ len ≤ 2932031007402 ∧ len ≤ cap ∧ cap ≤ 2932031007402 := by
  have hc : Tryd.prog.cellsOf 31 = 5 := by kernel_rfl
  have hb : Tryd.prog.bytesOf 31 = 48 := by kernel_rfl
  rcases open_slice Tryd.underlying22 h with ⟨hcs, hx⟩ | ⟨a, len', cap', m, n, D, Pl, hcs, _, hl, hm, hmm, rfl, hcell⟩
  · simp at hcs
    obtain ⟨rfl, rfl, rfl⟩ := hcs
    exact ⟨[], ⟨rfl, fun h => absurd h (by omega)⟩, (fun p hp => by cases hp), by omega, by omega, by omega⟩
  · simp at hcs
    obtain ⟨rfl, rfl, rfl⟩ := hcs
    simp only [if_true] at hmm
    subst hmm
    rw [hc] at hcell
    obtain ⟨p, hp⟩ := choose_lt (α := PartD) (p := fun i q => (∀ k v, (partL q)[k]? = some v → W.cell? ((a.add (i * 5)).add k) = some v) ∧ D i = partDat q) (fun i hi => by
      obtain ⟨cs', h1, h2⟩ := hcell i hi
      obtain ⟨_, hlen, hcc⟩ := World.cells?_some h1
      obtain ⟨q, rfl, hq⟩ := part_of h2
      refine ⟨q, fun k v hk => ?_, hq⟩
      have hk5 : k < 5 := by
        have := (List.getElem?_eq_some_iff.1 hk).1
        simpa [partL] using this
      rw [hcc k hk5, hk])
    have hw : ∀ x ∈ ((m * 48) :: (DataW.weightsAll Tryd.prog 31 ((List.range len).map D))), x ≤ reachBytes := by
      intro x hx
      refine hz x ?_
      rw [DataW.weights, Tryd.underlying22]
      simp only [List.length_map, List.length_range, hb, List.mem_cons, List.mem_append] at hx ⊢
      rcases hx with hx | hx
      · left; rw [hx, Nat.add_sub_cancel' hl]
      · right; left; exact hx
    have hcap := hw (m * 48) (by simp)
    unfold reachBytes at hcap
    refine ⟨(List.range len).map p, ⟨by simp, fun h0 => ?_⟩, fun q hq => ?_, by omega, hl, by omega⟩
    · have h00 := (hp 0 (by omega)).1 0 _ rfl
      rw [Nat.zero_mul, add_add] at h00
      obtain ⟨g, off, spot⟩ := a
      have hsp : spot = none ∧ g < W.heap.size := by
        unfold Addr.add World.cell? at h00
        simp only [Nat.add_zero, if_true] at h00
        split at h00
        · rename_i c t f hg
          refine ⟨?_, (Array.getElem?_eq_some_iff.1 hg).1⟩
          cases spot with
          | none => rfl
          | some s => simp at h00
        · cases h00
      obtain ⟨rfl, hg⟩ := hsp
      refine ⟨g, off, rfl, hg, fun j hj i v hv => ?_⟩
      have hj' : j < len := by simpa using hj
      have := (hp j (by omega)).1 i v (by simpa using hv)
      rw [add_add] at this
      unfold Addr.add at this
      by_cases h0 : j * 5 + i = 0
      · rw [if_pos h0] at this
        rw [show off + j * 5 + i = off by omega]; exact this
      · rw [if_neg h0] at this
        rw [show off + j * 5 + i = off + (j * 5 + i) by omega]; exact this
    · obtain ⟨i, hi, rfl⟩ := List.mem_map.1 hq
      have hi' : i < len := by simpa using hi
      have h1 : (p i).tag.length ∈ DataW.weightsAll Tryd.prog 31 ((List.range len).map D) :=
        weights_mem_all (d := D i) (List.mem_map.2 ⟨i, hi, rfl⟩) (by rw [(hp i (by omega)).2]; exact part_weigh)
      have h2 := hw _ (List.mem_cons_of_mem _ h1)
      unfold reachBytes at h2
      omega
theorem trod_parts_form {fuel : Nat} {cs : List Value} {y : DataW H × List MemPlace} (h : DataW.trod enc Tryd.prog W 0 sp hd fuel 22 cs = some y) : ∃ A l c, cs = [.slice A l c] := by
  rcases open_slice Tryd.underlying22 h with ⟨hcs, _⟩ | ⟨a', len', cap', m, n, D, Pl, hcs, _⟩
  · exact ⟨_, _, _, hcs⟩
  · exact ⟨_, _, _, hcs⟩
set_option maxRecDepth 100000 in
/-- An upload that came in. -/
theorem upload_open {b0 : Nat} {v : Value} {d : DataW H} {ps : List MemPlace} (hv : Value.okWide Tryd.prog W .any b0 26 v) (h : DataW.Trod enc Tryd.prog W 0 (fun _ => true) hd 26 v d ps) (hz : ∀ x ∈ d.weights Tryd.prog 26, x ≤ reachBytes) :
    ∃ u A n cap ps, v = upV u (.slice A n cap) ∧ PartsAt W A n ps ∧ OkP ps ∧ n ≤ 2932031007402 ∧ n ≤ cap ∧ cap ≤ 2932031007402 := by
  obtain ⟨cs, rfl, hsz⟩ := okWide_struct Tryd.underlying26 hv
  obtain ⟨fuel, hf⟩ := h
  obtain ⟨y0, y1, y2, y3, y4, y5, y6, n, hx, hl, g0, g1, g2, g3, g4, g5, g6⟩ := trod_struct7 Tryd.underlying26 hf
  have hc : Tryd.prog.cellsOf 26 = 7 := by kernel_rfl
  have hi : Tryd.prog.cellsOf 3 = 1 := by kernel_rfl
  have hs : Tryd.prog.cellsOf 9 = 1 := by kernel_rfl
  have hp : Tryd.prog.cellsOf 22 = 1 := by kernel_rfl
  obtain ⟨c0, c1, c2, c3, c4, c5, c6, e⟩ := list7 (l := cs.toList) (by rw [Array.length_toList, hsz, hc])
  simp only [Value.cells, e] at g0 g1 g2 g3 g4 g5 g6
  simp only [hi, hs, hp, List.drop_zero, List.drop_succ_cons, List.take_succ_cons, List.take_zero] at g0 g1 g2 g3 g4 g5 g6
  obtain ⟨n0, rfl, x0⟩ := int_of g0
  obtain ⟨s1, rfl, x1⟩ := str_of g1
  obtain ⟨s2, rfl, x2⟩ := str_of g2
  obtain ⟨s3, rfl, x3⟩ := str_of g3
  obtain ⟨s4, rfl, x4⟩ := str_of g4
  obtain ⟨n5, rfl, x5⟩ := int_of g5
  obtain ⟨A, l, c, h6⟩ := trod_parts_form g6
  have h6' : c6 = .slice A l c := by simpa using h6
  subst h6'
  obtain ⟨ps, h1, h2, h3, h4, h5⟩ := parts_of g6 (fun x hx6 => hz x (by
    have hx' : d = .agg [y0.1, y1.1, y2.1, y3.1, y4.1, y5.1, y6.1] := hx
    rw [hx', DataW.weights, Tryd.underlying26]
    simp only [DataW.weightsEach, List.map_cons, List.mem_append, List.map_nil]
    simp [hx6]))
  refine ⟨⟨n0, s1, s2, s3, s4, n5⟩, A, l, c, ps, ?_, h1, h2, h3, h4, h5⟩
  unfold upV
  rw [show cs = cs.toList.toArray from (Array.toArray_toList).symm, e]
  rfl
set_option maxRecDepth 100000 in
/-- A slice of parts that came in, as an argument. -/
theorem parts_open {b0 : Nat} {v : Value} {d : DataW H} {q : List MemPlace} (hv : Value.okWide Tryd.prog W .any b0 22 v) (h : DataW.Trod enc Tryd.prog W 0 (fun _ => true) hd 22 v d q) (hz : ∀ x ∈ d.weights Tryd.prog 22, x ≤ reachBytes) :
    ∃ A n cap ps, v = .slice A n cap ∧ PartsAt W A n ps ∧ OkP ps ∧ n ≤ 2932031007402 ∧ n ≤ cap ∧ cap ≤ 2932031007402 := by
  obtain ⟨A, len, cap, rfl⟩ := okWide_slice Tryd.underlying22 hv
  obtain ⟨fuel, hf⟩ := h
  obtain ⟨ps, h1, h2, h3, h4, h5⟩ := parts_of hf hz
  exact ⟨A, len, cap, ps, rfl, h1, h2, h3, h4, h5⟩
set_option maxRecDepth 100000 in
/-- A part that came in. -/
theorem part_open {b0 : Nat} {v : Value} {d : DataW H} {q : List MemPlace} (hv : Value.okWide Tryd.prog W .any b0 31 v) (h : DataW.Trod enc Tryd.prog W 0 (fun _ => true) hd 31 v d q) (hz : ∀ x ∈ d.weights Tryd.prog 31, x ≤ reachBytes) :
    ∃ p : PartD, v = partV p ∧ p.tag.length ≤ 140737488355328 := by
  obtain ⟨cs, rfl, hsz⟩ := okWide_struct Tryd.underlying31 hv
  obtain ⟨fuel, hf⟩ := h
  obtain ⟨p, hp, hd⟩ := part_of hf
  refine ⟨p, ?_, ?_⟩
  · unfold partV
    rw [← hp]
    rfl
  · have := hz p.tag.length (by
      have hd' : d = partDat p := hd
      rw [hd']; exact part_weigh)
    unfold reachBytes at this
    omega
theorem weigh_each {ts : List TypeId} {ds : List (DataW H)} (h : (DataW.weightsEach Tryd.prog ts ds).all (· ≤ reachBytes) = true) {j : Nat} {t : TypeId} {d : DataW H} (ht : ts[j]? = some t) (hd : ds[j]? = some d) : ∀ x ∈ d.weights Tryd.prog t, x ≤ reachBytes := fun x hx => by
  have := List.all_eq_true.1 h x (DataW.weights_mem_each ht hd x hx)
  simpa using this
end
end Go.Proofs.YtbhgekhcpagkoaaDoor
/- parts.Put: what it lays. -/
set_option linter.unusedVariables false
set_option linter.unusedSimpArgs false
namespace Go.Proofs.YtbhgekhcpagkoaaDoor
open Go Go.RowKit
theorem atP_eq {ps : List PartD} {x : Int} {k : Nat} (hk : k ≤ ps.length) (h1 : ∀ j, j < k → (gP ps j).num < x) (h2 : k = ps.length ∨ x ≤ (gP ps k).num) : atP ps x = k := by
  have hg : ∀ j (h : j < ps.length), gP ps j = ps[j] := fun j h => by simp [gP, List.getD, h]
  unfold atP
  rcases Nat.lt_or_eq_of_le hk with hl | rfl
  · rw [List.findIdx_eq hl]
    refine ⟨?_, fun j hj => ?_⟩
    · rcases h2 with h | h
      · omega
      · rw [← hg k hl]; exact decide_eq_true h
    · have := h1 j hj
      rw [hg j (by omega)] at this
      exact decide_eq_false (by omega)
  · rw [List.findIdx_eq_length]
    intro p hp
    obtain ⟨j, hj, rfl⟩ := List.getElem_of_mem hp
    have := h1 j hj
    rw [hg j hj] at this
    exact decide_eq_false (by omega)
theorem PartsAt.dropI {w : World} {g off n cap D : Nat} {ps : List PartD} (h : PartsAt w (some ⟨g, off, none⟩) n ps) (hD : D ≤ n) (hc : n ≤ cap) : PartsAt w (if cap = D then some ⟨g, off, none⟩ else some ⟨g, off + D * 5, none⟩) (n - D) (ps.drop D) := by
  split
  · obtain rfl : n = D := by omega
    refine ⟨by rw [List.length_drop, ← h.1], fun h0 => absurd h0 (by omega)⟩
  · exact h.drop D hD
theorem grownBy_setCell6 (W : World) (B i : Nat) (v : Value) : W.grownBy (W.setCell ⟨B, i, none⟩ v) (some B) :=
  ⟨rfl, rfl, rfl, by simp [World.setCell], fun k _ hk => Below.heap_setCell _ _ _ _ (fun e => hk (by rw [e]))⟩
theorem PutB.set6 {w0 w : World} {N0 : Nat} {u : UpD} {v : Value} {p : PartD} {u2 : UpD} {v2 : Value} (h : PutB w0 N0 u v p u2 v2 w) (x : Value) : PutB w0 N0 u x p u2 v2 (w.setCell ⟨N0, 6, none⟩ x) :=
  have hg := grownBy_setCell6 w N0 6 x
  ⟨h.bu.set6 x, (hg.block _ h.bp.lt (by simp)).trans h.bp, (hg.block _ (Array.getElem?_eq_some_iff.1 h.br).1 (by simp; omega)).trans h.br, h.q.setNew (p := ⟨N0, 6, none⟩) (by have := h.sz; simp; omega) x, h.sz⟩
set_option maxRecDepth 100000 in
set_option maxHeartbeats 8000000 in
theorem Put_ok (u : UpD) (A : Option Addr) (n cap : Nat) (ps : List PartD) (p : PartD) (w : World) (h : PartsAt w A n ps) (hok : OkP ps) (hp : p.tag.length ≤ 140737488355328) (hr : rightB ps = true) (hmay : mayB p = true) (hcap : n ≤ cap ∧ cap ≤ 9223372036854775807) :
    Calls Tryd.prog 10 #[upV u (.slice A n cap), partV p] w fun e w' => (∃ v, e = .returned (.tuple #[upV u v, .int .i64 0]) ∧ OwnP w w' v (putL ps p)) ∧ Q w w' := by
  have hn20 : n ≤ 20 := by rw [h.1]; exact right_len hr
  have hnl := Lib.hid h.1
  have hm := Lib.hid (fun w => may_any p w hp)
  have hright := Lib.hid (fun w h => right_any A n cap ps w h hok (by omega))
  rw [hr] at hright
  rw [hmay] at hm
  obtain ⟨seq, bucket, key, type, owner, time⟩ := u
  obtain ⟨num, size, time2, tag, blob⟩ := p
  unfold upV upL partV partL at *
  simp only at hm ⊢
  go_enter Tryd.func10, Tryd.ntmps10
  go_wp2_with fail
  refine (hright.out _ (h.q (((Q.refl w).alloc _).alloc _ |>.alloc _))).mono ?_
  rintro e w1 ⟨rfl, hq⟩
  have hB := PutB.start w ⟨seq, bucket, key, type, owner, time⟩ (.slice A n cap) ⟨num, size, time2, tag, blob⟩ zU (.slice none 0 0) w1 hq
  clear hq hright
  have c0 := hB.bp.c0
  have c1 := hB.bp.c1
  have c2 := hB.bp.c2
  have c3 := hB.bp.c3
  have c4 := hB.bp.c4
  have hN0 : w.heap.size = w.heap.size := rfl
  obtain ⟨N0, hN⟩ : ∃ N0, N0 = w.heap.size := ⟨_, rfl⟩
  rw [← hN] at hB c0 c1 c2 c3 c4 ⊢
  have HN := Lib.hid hN
  clear hN hN0
  go_wp2_with fail
  refine (hm.out _).mono ?_
  rintro e w2 ⟨rfl, hq2⟩
  have hB := hB.go hq2
  clear c0 c1 c2 c3 c4 hq2 hm
  have HH := Lib.hid h
  clear h
  go_wp2_with fail
  go_loopw [6] (fun i wr => ∃ k : Nat, k ≤ n ∧ i = .int .i64 (k : Int) ∧ Hid (∀ j, j < k → (gP ps j).num < num) ∧ PutB w N0 ⟨seq, bucket, key, type, owner, time⟩ (.slice A n cap) ⟨num, size, time2, tag, blob⟩ zU (.slice none 0 0) wr) (fun i _ => n - (intOf i).toNat)
  case atStart => exact ⟨0, by omega, rfl, fun j hj => by omega, hB⟩
  case round =>
    obtain ⟨k, hk, rfl, hj, hB⟩ := hrel
    have hnlt : (n : Int) ≤ 20 := by omega
    have cu : ∀ m : QW wr, m.val.cell? ⟨N0, 6, none⟩ = some (.slice A n cap) := fun m => m.cell hB.bu.c6
    have cp : ∀ m : QW wr, m.val.cell? ⟨N0 + 1, 0, none⟩ = some (.int .i64 num) := fun m => m.cell hB.bp.c0
    by_cases hlt : k < n
    · have g1 : decide (k < n) = true := by simpa using hlt
      obtain ⟨g, off, rfl, ck0, _⟩ := (HH.out.q hB.q).at hlt
      have ck : ∀ m : QW wr, m.val.cell? ⟨g, off + k * 5, none⟩ = some (.int .i64 (gP ps k).num) := fun m => m.cell ck0
      by_cases hv : (gP ps k).num < num
      · have g2 : decide ((gP ps k).num < num) = true := by simpa using hv
        have HV := Lib.hid hv
        clear hv
        go_wp2_with fail
        refine wp_region_q (by kernel_rfl) (by kernel_rfl) ?_
        (repeat (go_big_quiet_step (fail)))
        refine wpQuiet_nil ?_
        rintro wa ⟨ma, hma⟩
        have hqa : Q wr wa := by rw [hma]; exact ma.le
        have hB := hB.go hqa
        clear hma ma hqa
        go_wp2_with fail
        go_roundw
        case rel =>
          refine ⟨k + 1, hlt, by go_num, fun j hj' => ?_, hB⟩
          by_cases e : j = k
          · subst e; exact HV.out
          · exact hj.out j (by omega)
        case measure => simp [intOf]; omega
      · have g2 : decide ((gP ps k).num < num) = false := by simpa using hv
        have HV := Lib.hid hv
        clear hv
        go_wp2_with fail
        refine wp_region_q (by kernel_rfl) (by kernel_rfl) ?_
        (repeat (go_big_quiet_step (fail)))
        refine wpQuiet_nil ?_
        rintro wa ⟨ma, hma⟩
        have hqa : Q wr wa := by rw [hma]; exact ma.le
        have hB := hB.go hqa
        clear hma ma hqa
        have hat : atP ps num = k := atP_eq (by rw [← hnl.out]; exact hk) hj.out (.inr (by have := HV.out; omega))
        have hB := hB
        obtain ⟨w3, hmk, ho3, hq3⟩ := make_parts wa k (n + 1) (by omega) (by omega)
        obtain ⟨G, hG⟩ : ∃ G, G = wa.heap.size := ⟨_, rfl⟩
        rw [← hG] at hmk ho3
        have hmk : (Instr.makeSlice 22 (.int .i64 (k : Int)) (.int .i64 ((n : Int) + 1))).run Tryd.prog wa = .ok (.slice (some ⟨G, 0, none⟩) k (n + 1)) w3 := hmk
        clear hG
        have hQw : Q wa w3 := hq3
        have hB3 := hB.go hQw
        have cua := hB.bu.c6
        have cu3 := hB3.bu.c6
        have hPA := HH.out.q (hB.q.trans hQw)
        go_upto_region 7 with (fail)
        iterate 10 go_step
        refine wpList_copy_ps rfl (.tmp 42) (.tmp 44) rfl wa w3 G k (n + 1) (List.replicate k default) ps _ n cap (by rfl) ho3 List.length_replicate (by rfl) hPA hQw ?_
        intro w4 ho4 hq4 _
        have hB4 := hB.go hq4
        have d0 := hB4.bp.c0
        have d1 := hB4.bp.c1
        have d2 := hB4.bp.c2
        have d3 := hB4.bp.c3
        have d4 := hB4.bp.c4
        have hnp := hnl.out
        have e4 : ps.take k ++ (List.replicate k (default : PartD)).drop n = ps.take k := by rw [List.drop_eq_nil_of_le (by rw [List.length_replicate]; omega), List.append_nil]
        rw [e4] at ho4
        have hlk : (ps.take k).length = k := by rw [List.length_take]; omega
        have HO4 := Lib.hid ho4
        clear ho4 hnp e4 cua cu3 hmk
        go_upto_region 8 with (fail)
        go_wp2_with (at_builtin; refine wpList_append_p rfl (.tmp 46) (.tmp 48) rfl wa w4 _ (ps.take k) ⟨num, size, time2, tag, blob⟩ (by rfl) HO4.out (by rfl) hq4 (by rw [hlk]; omega) ?_; intro v5 w5 ho5 hq5 _; have HO5 := Lib.hid ho5; have hB5 := hB.go hq5; have HQ5 := Lib.hid hq5; clear ho5 hq5 d0 d1 d2 d3 d4)
        have cu5 : ∀ m : QW w5, m.val.cell? ⟨N0, 6, none⟩ = some (.slice _ n cap) := fun m => m.cell hB5.bu.c6
        have cp5 : ∀ m : QW w5, m.val.cell? ⟨N0 + 1, 0, none⟩ = some (.int .i64 num) := fun m => m.cell hB5.bp.c0
        obtain ⟨g5, off5, hA5, ck5, _⟩ := (HH.out.q hB5.q).at hlt
        cases hA5
        have ck5 : ∀ m : QW w5, m.val.cell? ⟨g, off + k * 5, none⟩ = some (.int .i64 (gP ps k).num) := fun m => m.cell ck5
        by_cases he : (gP ps k).num = num
        · have g5 : ((gP ps k).num == num) = true := by simpa using he
          have HE := Lib.hid he
          clear he
          refine wp_region_q (by kernel_rfl) (by kernel_rfl) ?_
          (repeat (go_big_quiet_step (fail)))
          refine wpQuiet_nil ?_
          rintro w6 ⟨m6, hm6⟩
          have hq56 : Q w5 w6 := by rw [hm6]; exact m6.le
          have hB6 := hB5.go hq56
          have HO6 := Lib.hid (HO5.out.q hq56)
          have HQ6 := Lib.hid (HQ5.out.trans hq56)
          have hPA6 := HH.out.q hB6.q
          have cu6 := hB6.bu.c6
          clear hm6 m6 hq56

          have hcp : (n : Int) ≤ (cap : Int) := by omega
          have hkn : (k : Int) ≤ (n : Int) := by omega
          go_upto_region 11 with (fail)
          iterate 16 go_step
          have hPD := hPA6.dropI (D := k + 1) (show k + 1 ≤ n by omega) hcap.1
          refine wpList_append_ps rfl (.tmp 68) (.tmp 72) rfl wa w6 v5 _ (ps.drop (k + 1)) _ (n - (k + 1)) (cap - (k + 1)) (by rfl) HO6.out (by rfl) hPD HQ6.out (by rw [List.length_append, hlk, List.length_singleton]; omega) ?_
          intro v7 w7 ho7 hq7 _
          obtain ⟨A7, n7, c7, rfl⟩ : ∃ A7 n7 c7, v7 = Value.slice A7 n7 c7 := by obtain ⟨A7, c7, hv, _⟩ := ho7.parts; exact ⟨A7, _, c7, hv⟩
          have hB7 := hB.go hq7
          have cu7 := hB7.bu.c6
          have fu7 := hB7.bu.fz 6
          have hNw : N0 + 1 + 1 < wa.heap.size := (Array.getElem?_eq_some_iff.1 hB.br).1
          have hob : ∀ b, (Value.slice A7 n7 c7).ownBlock = some b → N0 + 1 + 1 < b := fun b hb => by have := (ho7.block hb).1; omega
          have hB8 := hB7.set6 (.slice A7 n7 c7)
          have ho8 : OwnP w (w7.setCell ⟨N0, 6, none⟩ (.slice A7 n7 c7)) (.slice A7 n7 c7) (ps.take k ++ [⟨num, size, time2, tag, blob⟩] ++ ps.drop (k + 1)) := (ho7.g (grownBy_setCell6 w7 N0 6 (.slice A7 n7 c7)) (fun b hb e => by have := (ho7.block hb).1; cases e; omega)).base hB.q.size
          have HO8 := Lib.hid ho8
          clear ho7 ho8 hPD hPA6 cu6
          go_upto_region 12 with (fail)
          go_step
          refine wpList_load_row rfl 26 (.tmp 2) rfl N0 (by rfl) 26 _ (0, 0) _ hB8.bu Tryd.underlying26 rfl infoU ?_
          simp only [Act.put, List.setIfInBounds_toArray, List.set_cons_succ, List.set_cons_zero]
          refine wpList_store_row rfl 26 (.tmp 4) (.tmp 75) rfl (N0 + 1 + 1) (upL ⟨seq, bucket, key, type, owner, time⟩ (.slice A7 n7 c7)).toArray (by rfl) (by rfl) 26 _ hB8.br infoU rfl (upL_one _ _ rfl) ?_
          obtain ⟨h1, h2⟩ := hB8.put ⟨seq, bucket, key, type, owner, time⟩ (.slice A7 n7 c7)
          have e9 : putL ps ⟨num, size, time2, tag, blob⟩ = ps.take k ++ [⟨num, size, time2, tag, blob⟩] ++ ps.drop (k + 1) := by
            unfold putL
            simp only [hat]
            rw [if_pos ⟨by rw [← hnl.out]; exact hlt, HE.out⟩]
            simp
          have HP9 := OwnP.g HO8.out (row := some (N0 + 1 + 1)) (w' := (w7.setCell ⟨N0, 6, none⟩ (.slice A7 n7 c7)).setRow (N0 + 1 + 1) (upL ⟨seq, bucket, key, type, owner, time⟩ (.slice A7 n7 c7)).toArray) ⟨rfl, rfl, rfl, by simp [World.setRow], fun b _ hb => setRow_other _ _ b _ (fun e => hb (by rw [e]))⟩ (fun b hb e => by have := hob b hb; cases e; omega)
          rw [← e9] at HP9
          clear e9
          go_wp2_with fail
          all_goals exact bodyPost_ret (results_up rfl (by rfl) h1) rfl ⟨⟨_, rfl, HP9⟩, h2⟩
        · have g5 : ((gP ps k).num == num) = false := by simpa using he
          have HE := Lib.hid he
          clear he
          refine wp_region_q (by kernel_rfl) (by kernel_rfl) ?_
          (repeat (go_big_quiet_step (fail)))
          refine wpQuiet_nil ?_
          rintro w6 ⟨m6, hm6⟩
          have hq56 : Q w5 w6 := by rw [hm6]; exact m6.le
          have hB6 := hB5.go hq56
          have HO6 := Lib.hid (HO5.out.q hq56)
          have HQ6 := Lib.hid (HQ5.out.trans hq56)
          have hPA6 := HH.out.q hB6.q
          have cu6 := hB6.bu.c6
          clear hm6 m6 hq56

          have hcp : (n : Int) ≤ (cap : Int) := by omega
          have hkn : (k : Int) ≤ (n : Int) := by omega
          go_upto_region 11 with (fail)
          iterate 16 go_step
          have hPD := hPA6.drop k hk
          refine wpList_append_ps rfl (.tmp 68) (.tmp 72) rfl wa w6 v5 _ (ps.drop k) _ (n - k) (cap - k) (by rfl) HO6.out (by rfl) hPD HQ6.out (by rw [List.length_append, hlk, List.length_singleton]; omega) ?_
          intro v7 w7 ho7 hq7 _
          obtain ⟨A7, n7, c7, rfl⟩ : ∃ A7 n7 c7, v7 = Value.slice A7 n7 c7 := by obtain ⟨A7, c7, hv, _⟩ := ho7.parts; exact ⟨A7, _, c7, hv⟩
          have hB7 := hB.go hq7
          have cu7 := hB7.bu.c6
          have fu7 := hB7.bu.fz 6
          have hNw : N0 + 1 + 1 < wa.heap.size := (Array.getElem?_eq_some_iff.1 hB.br).1
          have hob : ∀ b, (Value.slice A7 n7 c7).ownBlock = some b → N0 + 1 + 1 < b := fun b hb => by have := (ho7.block hb).1; omega
          have hB8 := hB7.set6 (.slice A7 n7 c7)
          have ho8 : OwnP w (w7.setCell ⟨N0, 6, none⟩ (.slice A7 n7 c7)) (.slice A7 n7 c7) (ps.take k ++ [⟨num, size, time2, tag, blob⟩] ++ ps.drop k) := (ho7.g (grownBy_setCell6 w7 N0 6 (.slice A7 n7 c7)) (fun b hb e => by have := (ho7.block hb).1; cases e; omega)).base hB.q.size
          have HO8 := Lib.hid ho8
          clear ho7 ho8 hPD hPA6 cu6
          go_upto_region 12 with (fail)
          go_step
          refine wpList_load_row rfl 26 (.tmp 2) rfl N0 (by rfl) 26 _ (0, 0) _ hB8.bu Tryd.underlying26 rfl infoU ?_
          simp only [Act.put, List.setIfInBounds_toArray, List.set_cons_succ, List.set_cons_zero]
          refine wpList_store_row rfl 26 (.tmp 4) (.tmp 75) rfl (N0 + 1 + 1) (upL ⟨seq, bucket, key, type, owner, time⟩ (.slice A7 n7 c7)).toArray (by rfl) (by rfl) 26 _ hB8.br infoU rfl (upL_one _ _ rfl) ?_
          obtain ⟨h1, h2⟩ := hB8.put ⟨seq, bucket, key, type, owner, time⟩ (.slice A7 n7 c7)
          have e9 : putL ps ⟨num, size, time2, tag, blob⟩ = ps.take k ++ [⟨num, size, time2, tag, blob⟩] ++ ps.drop k := by
            unfold putL
            simp only [hat]
            rw [if_neg (fun hh => HE.out hh.2)]
            simp
          have HP9 := OwnP.g HO8.out (row := some (N0 + 1 + 1)) (w' := (w7.setCell ⟨N0, 6, none⟩ (.slice A7 n7 c7)).setRow (N0 + 1 + 1) (upL ⟨seq, bucket, key, type, owner, time⟩ (.slice A7 n7 c7)).toArray) ⟨rfl, rfl, rfl, by simp [World.setRow], fun b _ hb => setRow_other _ _ b _ (fun e => hb (by rw [e]))⟩ (fun b hb e => by have := hob b hb; cases e; omega)
          rw [← e9] at HP9
          clear e9
          go_wp2_with fail
          all_goals exact bodyPost_ret (results_up rfl (by rfl) h1) rfl ⟨⟨_, rfl, HP9⟩, h2⟩
    · have HKN : Hid (k = n) := (show k = n by omega)
      have g1 : decide (k < n) = false := by simpa using hlt
      clear hlt
      go_wp2_with fail
      refine wp_region_q (by kernel_rfl) (by kernel_rfl) ?_
      (repeat (go_big_quiet_step (fail)))
      refine wpQuiet_nil ?_
      rintro wa ⟨ma, hma⟩
      have hqa : Q wr wa := by rw [hma]; exact ma.le
      have hB := hB.go hqa
      clear hma ma hqa
      have hat : atP ps num = k := atP_eq (by rw [← hnl.out]; exact hk) hj.out (.inl (HKN.out.trans hnl.out))
      have hB := hB
      obtain ⟨w3, hmk, ho3, hq3⟩ := make_parts wa k (n + 1) (by omega) (by omega)
      obtain ⟨G, hG⟩ : ∃ G, G = wa.heap.size := ⟨_, rfl⟩
      rw [← hG] at hmk ho3
      have hmk : (Instr.makeSlice 22 (.int .i64 (k : Int)) (.int .i64 ((n : Int) + 1))).run Tryd.prog wa = .ok (.slice (some ⟨G, 0, none⟩) k (n + 1)) w3 := hmk
      clear hG
      have hQw : Q wa w3 := hq3
      have hB3 := hB.go hQw
      have cua := hB.bu.c6
      have cu3 := hB3.bu.c6
      have hPA := HH.out.q (hB.q.trans hQw)
      go_upto_region 7 with (fail)
      iterate 10 go_step
      refine wpList_copy_ps rfl (.tmp 42) (.tmp 44) rfl wa w3 G k (n + 1) (List.replicate k default) ps _ n cap (by rfl) ho3 List.length_replicate (by rfl) hPA hQw ?_
      intro w4 ho4 hq4 _
      have hB4 := hB.go hq4
      have d0 := hB4.bp.c0
      have d1 := hB4.bp.c1
      have d2 := hB4.bp.c2
      have d3 := hB4.bp.c3
      have d4 := hB4.bp.c4
      have hnp := hnl.out
      have e4 : ps.take k ++ (List.replicate k (default : PartD)).drop n = ps.take k := by rw [List.drop_eq_nil_of_le (by rw [List.length_replicate]; omega), List.append_nil]
      rw [e4] at ho4
      have hlk : (ps.take k).length = k := by rw [List.length_take]; omega
      have HO4 := Lib.hid ho4
      clear ho4 hnp e4 cua cu3 hmk
      go_upto_region 8 with (fail)
      go_wp2_with (at_builtin; refine wpList_append_p rfl (.tmp 46) (.tmp 48) rfl wa w4 _ (ps.take k) ⟨num, size, time2, tag, blob⟩ (by rfl) HO4.out (by rfl) hq4 (by rw [hlk]; omega) ?_; intro v5 w5 ho5 hq5 _; have HO5 := Lib.hid ho5; have hB5 := hB.go hq5; have HQ5 := Lib.hid hq5; clear ho5 hq5 d0 d1 d2 d3 d4)
      have cu5 : ∀ m : QW w5, m.val.cell? ⟨N0, 6, none⟩ = some (.slice A n cap) := fun m => m.cell hB5.bu.c6
      have cp5 : ∀ m : QW w5, m.val.cell? ⟨N0 + 1, 0, none⟩ = some (.int .i64 num) := fun m => m.cell hB5.bp.c0
      refine wp_region_q (by kernel_rfl) (by kernel_rfl) ?_
      (repeat (go_big_quiet_step (fail)))
      refine wpQuiet_nil ?_
      rintro w6 ⟨m6, hm6⟩
      have hq56 : Q w5 w6 := by rw [hm6]; exact m6.le
      have hB6 := hB5.go hq56
      have HO6 := Lib.hid (HO5.out.q hq56)
      have HQ6 := Lib.hid (HQ5.out.trans hq56)
      have hPA6 := HH.out.q hB6.q
      have cu6 := hB6.bu.c6
      clear hm6 m6 hq56

      have hcp : (n : Int) ≤ (cap : Int) := by omega
      have hkn : (k : Int) ≤ (n : Int) := by omega
      go_upto_region 11 with (fail)
      iterate 16 go_step
      have hPD : ∀ A', PartsAt w6 A' (n - k) (ps.drop k) := fun A' => ⟨by rw [List.length_drop, ← hnl.out], fun h0 => by have := HKN.out; omega⟩
      refine wpList_append_ps rfl (.tmp 68) (.tmp 72) rfl wa w6 v5 _ (ps.drop k) _ (n - k) (cap - k) (by rfl) HO6.out (by rfl) (hPD _) HQ6.out (by rw [List.length_append, hlk, List.length_singleton]; omega) ?_
      intro v7 w7 ho7 hq7 _
      obtain ⟨A7, n7, c7, rfl⟩ : ∃ A7 n7 c7, v7 = Value.slice A7 n7 c7 := by obtain ⟨A7, c7, hv, _⟩ := ho7.parts; exact ⟨A7, _, c7, hv⟩
      have hB7 := hB.go hq7
      have cu7 := hB7.bu.c6
      have fu7 := hB7.bu.fz 6
      have hNw : N0 + 1 + 1 < wa.heap.size := (Array.getElem?_eq_some_iff.1 hB.br).1
      have hob : ∀ b, (Value.slice A7 n7 c7).ownBlock = some b → N0 + 1 + 1 < b := fun b hb => by have := (ho7.block hb).1; omega
      have hB8 := hB7.set6 (.slice A7 n7 c7)
      have ho8 : OwnP w (w7.setCell ⟨N0, 6, none⟩ (.slice A7 n7 c7)) (.slice A7 n7 c7) (ps.take k ++ [⟨num, size, time2, tag, blob⟩] ++ ps.drop k) := (ho7.g (grownBy_setCell6 w7 N0 6 (.slice A7 n7 c7)) (fun b hb e => by have := (ho7.block hb).1; cases e; omega)).base hB.q.size
      have HO8 := Lib.hid ho8
      clear ho7 ho8 hPD hPA6 cu6
      go_upto_region 12 with (fail)
      go_step
      refine wpList_load_row rfl 26 (.tmp 2) rfl N0 (by rfl) 26 _ (0, 0) _ hB8.bu Tryd.underlying26 rfl infoU ?_
      simp only [Act.put, List.setIfInBounds_toArray, List.set_cons_succ, List.set_cons_zero]
      refine wpList_store_row rfl 26 (.tmp 4) (.tmp 75) rfl (N0 + 1 + 1) (upL ⟨seq, bucket, key, type, owner, time⟩ (.slice A7 n7 c7)).toArray (by rfl) (by rfl) 26 _ hB8.br infoU rfl (upL_one _ _ rfl) ?_
      obtain ⟨h1, h2⟩ := hB8.put ⟨seq, bucket, key, type, owner, time⟩ (.slice A7 n7 c7)
      have e9 : putL ps ⟨num, size, time2, tag, blob⟩ = ps.take k ++ [⟨num, size, time2, tag, blob⟩] ++ ps.drop k := by
        unfold putL
        simp only [hat]
        rw [if_neg (fun hh => by have := hh.1; have := HKN.out; have := hnl.out; omega)]
        simp
      have HP9 := OwnP.g HO8.out (row := some (N0 + 1 + 1)) (w' := (w7.setCell ⟨N0, 6, none⟩ (.slice A7 n7 c7)).setRow (N0 + 1 + 1) (upL ⟨seq, bucket, key, type, owner, time⟩ (.slice A7 n7 c7)).toArray) ⟨rfl, rfl, rfl, by simp [World.setRow], fun b _ hb => setRow_other _ _ b _ (fun e => hb (by rw [e]))⟩ (fun b hb e => by have := hob b hb; cases e; omega)
      rw [← e9] at HP9
      clear e9
      go_wp2_with fail
      all_goals exact bodyPost_ret (results_up rfl (by rfl) h1) rfl ⟨⟨_, rfl, HP9⟩, h2⟩
theorem Put_any (u : UpD) (A : Option Addr) (n cap : Nat) (ps : List PartD) (p : PartD) (w : World) (h : PartsAt w A n ps) (hok : OkP ps) (hp : p.tag.length ≤ 140737488355328) (hcap : n ≤ cap ∧ cap ≤ 9223372036854775807) :
    Calls Tryd.prog 10 #[upV u (.slice A n cap), partV p] w fun e w' => (((rightB ps && mayB p) = true ∧ ∃ v, e = .returned (.tuple #[upV u v, .int .i64 0]) ∧ OwnP w w' v (putL ps p)) ∨ ((rightB ps && mayB p) = false ∧ e = .returned (.tuple #[upV zU (.slice none 0 0), .int .i64 1]))) ∧ Q w w' := by
  cases hb : (rightB ps && mayB p) with
  | false =>
    refine (Put_bad u A n cap ps p w h hok hp (by omega) hb).mono ?_
    rintro e w1 ⟨rfl, hq⟩
    exact ⟨.inr ⟨rfl, rfl⟩, hq⟩
  | true =>
    have h2 := hb
    simp only [Bool.and_eq_true] at h2
    refine (Put_ok u A n cap ps p w h hok hp h2.1 h2.2 hcap).mono ?_
    rintro e w1 ⟨hv, hq⟩
    exact ⟨.inl ⟨rfl, hv⟩, hq⟩
end Go.Proofs.YtbhgekhcpagkoaaDoor
