/- Texts of this proof, laid into one: Byt, Bits, Crc, FrA, Clo, Cps, Pure, Qt. -/
import Derived.Test.YtjbdjkpbkjkdpaaDoorMr01
import Derived.Laws.IdiomStrings
import Derived.Maps.AppendAt
import Derived.Lib.BufferRead
import Derived.WalkKit
import Derived.Outline
import Derived.Test.YtjbdjkpbkjkdpaaDoorShelf
import Derived.Lib.BufferWrite
import Derived.Laws.Rows
import Derived.OrdersHeld
import Derived.StillTail
/- A slice of bytes of the call's own: what it holds; append, reads, stores, to and from texts. -/
set_option linter.unusedVariables false
namespace Go.Proofs.YtjbdjkpbkjkdpaaDoor
open Go Go.RowKit

/-- v is a slice made since w0 that holds these bytes, all of them writable. -/
def OwnB (w0 w : World) (v : Value) (b : List UInt8) : Prop :=
  (v = .slice none 0 0 ∧ b = []) ∨
  ∃ g cap cur fz, v = .slice (some ⟨g, 0, none⟩) b.length cap ∧ w0.heap.size ≤ g ∧ w.heap[g]? = some (.cells cur 5 fz) ∧ (fz.2 = 0 ∨ cur.size ≤ fz.1) ∧ b.length ≤ cap ∧ cap ≤ maxLen ∧ cur.size = cap ∧ cur.toList.take b.length = b.map u8V
theorem OwnB.nil (w0 w : World) : OwnB w0 w (.slice none 0 0) [] := .inl ⟨rfl, rfl⟩
theorem OwnB.g {w0 w w' : World} {v : Value} {b : List UInt8} {row : Option Nat} (h : OwnB w0 w v b) (hg : w.grownBy w' row) (hr : ∀ k, v.ownBlock = some k → row ≠ some k) : OwnB w0 w' v b := by
  rcases h with h | ⟨g, cap, cur, fz, hv, h1, h2, h3⟩
  · exact .inl h
  · refine .inr ⟨g, cap, cur, fz, hv, h1, ?_, h3⟩
    rw [hg.block g (lt_of_heap h2) (by intro e; exact hr g (by rw [hv]; rfl) e.symm)]
    exact h2
theorem OwnB.q {w0 w w' : World} {v : Value} {b : List UInt8} (h : OwnB w0 w v b) (hq : Q w w') : OwnB w0 w' v b := h.g (hq.gb none) (by simp)
theorem OwnB.base {w0 w1 w : World} {v : Value} {b : List UInt8} (h : OwnB w1 w v b) (hq : w0.heap.size ≤ w1.heap.size) : OwnB w0 w v b := by
  rcases h with h | ⟨g, cap, cur, fz, hv, h1, h2⟩
  · exact .inl h
  · exact .inr ⟨g, cap, cur, fz, hv, by omega, h2⟩
theorem OwnB.block {w0 w : World} {v : Value} {b : List UInt8} (h : OwnB w0 w v b) {k : Nat} (hk : v.ownBlock = some k) : w0.heap.size ≤ k := by
  rcases h with ⟨rfl, _⟩ | ⟨g, cap, cur, fz, rfl, h1, _⟩
  · cases hk
  · simp [Value.ownBlock] at hk; omega
theorem OwnB.of_row {w0 w : World} {v : Value} {b : List UInt8} (h : w.ownsRow w0.heap.size 5 1 v b.length (b.map u8V)) : OwnB w0 w v b := by
  rcases h.2 with ⟨rfl, h0⟩ | ⟨g, cap, cur, rfl, hb, hh, hn, hm, hcs, ht⟩
  · exact .inl ⟨rfl, List.eq_nil_of_length_eq_zero h0⟩
  · exact .inr ⟨g, cap, cur, (0, 0), rfl, hb, hh, .inl rfl, hn, hm, by omega, by rw [Nat.mul_one] at ht; exact ht⟩
theorem info_u8 : (Tryd.prog.info? 5).map (fun i => (i.zero, i.size, i.bytes)) = some (some (.int .u8 0), 1, 1) := by kernel_rfl
theorem heap_setCell_any (w : World) (g i : Nat) (cs : Array Value) (t : TypeId) (fz : Nat × Nat) (v : Value) (hg : w.heap[g]? = some (.cells cs t fz)) :
    (w.setCell ⟨g, i, none⟩ v).heap[g]? = some (.cells (cs.setIfInBounds i v) t fz) := by
  simp [World.setCell, Array.getElem?_modify, hg]
theorem heap_setCells (g : Nat) (t : TypeId) (fz : Nat × Nat) (vs : List Value) : ∀ (o : Nat) (w : World) (cur : Array Value), w.heap[g]? = some (.cells cur t fz) → o + vs.length ≤ cur.size →
    (w.setCells g o vs).heap[g]? = some (.cells (cur.toList.take o ++ vs ++ cur.toList.drop (o + vs.length)).toArray t fz) := by
  induction vs with
  | nil => intro o w cur h _; simpa [World.setCells] using h
  | cons v r ih =>
    intro o w cur h ho
    simp only [List.length_cons] at ho
    rw [World.setCells, ih (o + 1) _ _ (heap_setCell_any w g o cur t fz v h) (by simp; omega)]
    congr 2
    rw [← Array.toList_inj]
    simp only [Array.toList_setIfInBounds]
    have ho' : o < cur.toList.length := by simp; omega
    rw [List.set_eq_take_append_cons_drop, if_pos ho']
    rw [List.take_append, List.drop_append, List.length_take, Nat.min_eq_left (by omega)]
    simp only [show o + 1 - o = 1 from by omega, List.take_succ_cons, List.take_zero, show o + 1 + r.length - o = r.length + 1 from by omega, List.drop_succ_cons, List.drop_drop, List.length_cons]
    rw [List.take_take, Nat.min_eq_right (by omega), List.drop_of_length_le (l := List.take o cur.toList) (by simp; omega)]
    simp [Nat.add_comm, Nat.add_left_comm]
theorem setCells_gb (g : Nat) (vs : List Value) : ∀ (o : Nat) (w : World), w.grownBy (w.setCells g o vs) (some g) := by
  induction vs with
  | nil => intro o w; exact ⟨rfl, rfl, rfl, Nat.le_refl _, fun _ _ _ => rfl⟩
  | cons v r ih => intro o w; exact gb_trans (gb_set ⟨rfl, rfl, rfl, Nat.le_refl _, fun _ _ _ => rfl⟩ o v) (ih (o + 1) _)
theorem frozen_any {w : World} {g i : Nat} {cur : Array Value} {t : TypeId} {fz : Nat × Nat} (h : w.heap[g]? = some (.cells cur t fz)) (hf : fz.2 = 0 ∨ cur.size ≤ fz.1) (hi : i < cur.size) : w.frozen? ⟨g, i, none⟩ = false := by
  unfold World.frozen?
  rw [h]
  simp only [Bool.and_eq_false_iff, decide_eq_false_iff_not]
  omega
theorem next_le {need old : Nat} (h : old < need) : Builtin.nextslicecap need old ≤ need + need / 4 + 512 := by
  unfold Builtin.nextslicecap
  split
  · omega
  · split
    · omega
    · rw [growBy_four]
      repeat' split
      all_goals omega
theorem next_fits {need old : Nat} (h : old < need) (hb : need ≤ 211106232532992) : Builtin.nextslicecap need old * 1 ≤ 281474976710656 := by
  have := next_le h
  omega
/-- append of bytes that lie somewhere. -/
theorem run_append_b (w0 w : World) (v : Value) (b : List UInt8) (ty : TypeId) (hown : OwnB w0 w v b) (ad : Addr) (m c : Nat) (news : List UInt8) (hm : news.length = m) (hnews : ∀ j (h : j < news.length), w.cell? (ad.add j) = some (u8V news[j]))
    (hb : b.length + m ≤ 211106232532992 ∧ m ≤ 140737488355328) (hw : w0.heap.size ≤ w.heap.size) :
    ∃ v' w', (Builtin.append_ #[69, 69] ty #[v, .slice (some ad) m c]).run Tryd.prog w = .ok v' w' ∧ OwnB w0 w' v' (b ++ news) ∧ w.grownBy w' v.ownBlock ∧ (v'.ownBlock = v.ownBlock ∨ v'.ownBlock = some w.heap.size) := by
  obtain ⟨i, hi, hz, hsz, hby⟩ := info_parts info_u8
  have hn2 : ∀ j u, (news.map u8V)[j]? = some u → w.cell? (ad.add j) = some u := by
    intro j u hu
    have hj : j < news.length := by have := (List.getElem?_eq_some_iff.1 hu).1; simpa using this
    rw [hnews j hj]
    rw [List.getElem?_map, List.getElem?_eq_getElem hj] at hu
    exact hu
  have h1 : ∀ u ∈ news.map u8V, u.oneCell' = true := by
    intro u hu
    obtain ⟨x, _, rfl⟩ := List.mem_map.1 hu
    rfl
  rcases hown with ⟨rfl, rfl⟩ | ⟨g, cap, cur, fz, rfl, hbg, hg, hfz, hnc, hcm, hcs, htake⟩
  · obtain ⟨v', w', r1, r2, r3, _, r5⟩ := run_append_own_at (P := Tryd.prog) w w.heap.size 69 ty 5 i (.int .u8 0) 1 1 Tryd.underlying69 hi hz hsz hby rfl (by decide) (.slice none 0 0) 0 [] (World.ownsRow_nil _ _ _ _) ad m c (news.map u8V) (by simp [hm]) hn2 h1 (by unfold maxLen; simp only [List.length_nil] at hb; omega) (by simp only [List.length_nil] at hb; omega) (Nat.le_refl _)
    have r2' : w'.ownsRow w.heap.size 5 1 v' news.length (news.map u8V) := by rw [hm]; simpa using r2
    exact ⟨v', w', r1, (OwnB.of_row r2').base hw, r3, r5⟩
  · by_cases hroom : b.length + m ≤ cap
    · have hf := run_firstCells_some (P := Tryd.prog) w i.size m ad m c (news.map u8V) (by simp [hm, hsz]) hn2
      have hcur : ∀ j, j < cur.size → (w.cell? ⟨g, j, none⟩).isSome = true := fun j hj => by rw [cell_of_row w g j cur _ fz hg, Array.getElem?_eq_getElem hj]; rfl
      have hst := run_storeCells_cells (P := Tryd.prog) g b.length (news.map u8V) 0 w (fun j hj => by simp at hj; simpa using hcur (b.length + j) (by omega)) (fun j hj => by simp at hj; simpa using frozen_any hg hfz (i := b.length + j) (by omega)) h1
      have hrun : (Builtin.append_ #[69, 69] ty #[.slice (some ⟨g, 0, none⟩) b.length cap, .slice (some ad) m c]).run Tryd.prog w = .ok (.slice (some ⟨g, 0, none⟩) (b.length + m) cap) (w.setCells g b.length (news.map u8V)) := by
        simp only [Nat.add_zero] at hst
        rw [hsz] at hf
        simp [Builtin.append_, run_underlying Tryd.underlying69, sizeOf, typeInfo, hi, Builtin.lenOf, hroom, hf, Addr.add_lit, hsz] at hst ⊢
        rw [hst]
        rfl
      have hh := heap_setCells g 5 fz (news.map u8V) b.length w cur hg (by simp; omega)
      have hcl : b.length ≤ cur.toList.length := by simp; omega
      refine ⟨_, _, hrun, .inr ⟨g, cap, _, fz, by simp [hm], hbg, hh, ?_, by simp [hm]; omega, hcm, ?_, ?_⟩, setCells_gb g _ _ _, .inl rfl⟩
      · rcases hfz with h | h
        · exact .inl h
        · right; simp; omega
      · simp; omega
      · have hl : (b ++ news).length = (b.map u8V ++ news.map u8V).length := by simp
        rw [hl, htake, List.take_left', List.map_append]
        rfl
    · have holds : ∀ j u, (b.map u8V)[j]? = some u → w.cell? ((⟨g, 0, none⟩ : Addr).add j) = some u := by
        intro j u hu
        have hj : j < b.length := by have := (List.getElem?_eq_some_iff.1 hu).1; simpa using this
        rw [add_off, Nat.zero_add, cell_of_row w g j cur _ fz hg]
        rw [← htake, List.getElem?_take, if_pos hj] at hu
        simpa using hu
      have hr := run_append_grow (P := Tryd.prog) w 69 ty 5 i (.int .u8 0) Tryd.underlying69 hi hz ⟨g, 0, none⟩ b.length cap (b.map u8V) (by simp [hsz]) holds ad m c (news.map u8V) (by simp [hm, hsz]) hn2 (by omega) (by omega) (by rw [hby]; exact next_fits (by omega) hb.1)
      have hge := grownCap_ge w (b.length + m) cap 5
      have hcm2 : grownCap w (b.length + m) cap 5 ≤ maxLen := grownCap_le_maxLen w (b.length + m) cap 5 (by unfold maxLen; omega)
      refine ⟨_, _, hr, .inr ⟨w.heap.size, _, _, (0, 0), by simp [hm], hw, heap_alloc_new w.drew _, .inl rfl, by simp [hm]; omega, hcm2, ?_, ?_⟩, ⟨rfl, rfl, rfl, by simp, fun k hk _ => Below.heap_alloc w.drew _ k hk⟩, .inr rfl⟩
      · simp only [Array.size_append, List.size_toArray, size_zeroCells, List.length_map, hm]
        rw [show (Value.int IntKind.u8 0).cells.size = 1 from rfl]
        omega
      · have hl : (b ++ news).length = (b.map u8V ++ news.map u8V).length := by simp
        simp only [Array.toList_append, List.append_assoc]
        rw [← List.append_assoc, hl, List.take_left', List.map_append]
        rfl
/-- append of bytes that have just been laid, where there is room. -/
theorem run_append_room_b (w0 W : World) (g cap : Nat) (b : List UInt8) (ty : TypeId) (hown : OwnB w0 W (.slice (some ⟨g, 0, none⟩) b.length cap) b) (hg0 : g < W.heap.size) (news : List UInt8) (n : Nat) (hn : news.length = n) (hroom : b.length + n ≤ cap) :
    ∃ w', (Builtin.append_ #[69, 69] ty #[.slice (some ⟨g, 0, none⟩) b.length cap, .slice (some ⟨W.heap.size, 0, none⟩) n n]).run Tryd.prog (W.alloc (.cells (arrB news) 5)) = .ok (.slice (some ⟨g, 0, none⟩) (b.length + n) cap) w' ∧
      OwnB w0 w' (.slice (some ⟨g, 0, none⟩) (b.length + n) cap) (b ++ news) ∧ (W.alloc (.cells (arrB news) 5)).grownBy w' (some g) := by
  obtain ⟨i, hi, hz, hsz, hby⟩ := info_parts info_u8
  have hA : OwnB w0 (W.alloc (.cells (arrB news) 5)) (.slice (some ⟨g, 0, none⟩) b.length cap) b := hown.q ((Q.refl W).alloc _)
  have hn2 : ∀ j u, (news.map u8V)[j]? = some u → (W.alloc (.cells (arrB news) 5)).cell? ((⟨W.heap.size, 0, none⟩ : Addr).add j) = some u := by
    intro j u hu
    rw [add_off, Nat.zero_add, cell_of_row _ _ _ _ _ _ (heap_alloc_new W _)]
    simpa [arrB] using hu
  have h1 : ∀ u ∈ news.map u8V, u.oneCell' = true := by
    intro u hu
    obtain ⟨x, _, rfl⟩ := List.mem_map.1 hu
    rfl
  rcases hA with ⟨h, _⟩ | ⟨g', cap', cur, fz, hv, hbg, hg, hfz, hnc, hcm, hcs, htake⟩
  · cases h
  · cases hv
    have hf := run_firstCells_some (P := Tryd.prog) (W.alloc (.cells (arrB news) 5)) i.size n ⟨W.heap.size, 0, none⟩ n n (news.map u8V) (by simp [hn, hsz]) hn2
    have hcur : ∀ j, j < cur.size → ((W.alloc (.cells (arrB news) 5)).cell? ⟨g, j, none⟩).isSome = true := fun j hj => by rw [cell_of_row _ g j cur _ fz hg, Array.getElem?_eq_getElem hj]; rfl
    have hst := run_storeCells_cells (P := Tryd.prog) g b.length (news.map u8V) 0 (W.alloc (.cells (arrB news) 5)) (fun j hj => by simp at hj; simpa using hcur (b.length + j) (by omega)) (fun j hj => by simp at hj; simpa using frozen_any hg hfz (i := b.length + j) (by omega)) h1
    have hrun : (Builtin.append_ #[69, 69] ty #[.slice (some ⟨g, 0, none⟩) b.length cap, .slice (some ⟨W.heap.size, 0, none⟩) n n]).run Tryd.prog (W.alloc (.cells (arrB news) 5)) = .ok (.slice (some ⟨g, 0, none⟩) (b.length + n) cap) ((W.alloc (.cells (arrB news) 5)).setCells g b.length (news.map u8V)) := by
      simp only [Nat.add_zero] at hst
      rw [hsz] at hf
      simp [Builtin.append_, run_underlying Tryd.underlying69, sizeOf, typeInfo, hi, Builtin.lenOf, hroom, hf, Addr.add_lit, hsz] at hst ⊢
      rw [hst]
      rfl
    have hh := heap_setCells g 5 fz (news.map u8V) b.length _ cur hg (by simp; omega)
    have hcl : b.length ≤ cur.toList.length := by simp; omega
    refine ⟨_, hrun, .inr ⟨g, cap, _, fz, by simp [hn], hbg, hh, ?_, by simp [hn]; omega, hcm, ?_, ?_⟩, setCells_gb g _ _ _⟩
    · rcases hfz with h | h
      · exact .inl h
      · right; simp; omega
    · simp; omega
    · have hl : (b ++ news).length = (b.map u8V ++ news.map u8V).length := by simp
      rw [hl, htake, List.take_left', List.map_append]
      rfl
theorem step_append_room_b {ops : Array Oper} {o : Oper} {a : Act} {K : Act → World → Prop} {R : Exit → Act → World → Prop} {E : Prop} (hgd : o.guard = none) (s x : Operand)
    (ho : o.op = .call { callee := .builtin .append, args := #[s, x], argTypes := #[69, 69] })
    (w0 W : World) (g len cap : Nat) (b : List UInt8) (hlen : b.length = len) (hs : a.eval s = .slice (some ⟨g, 0, none⟩) len cap) (hown : OwnB w0 W (.slice (some ⟨g, 0, none⟩) len cap) b) (hg0 : g < W.heap.size) (news : List UInt8) (n : Nat) (hn : news.length = n) (hx : a.eval x = .slice (some ⟨W.heap.size, 0, none⟩) n n) (hroom : len + n ≤ cap)
    (h : ∀ w', OwnB w0 w' (.slice (some ⟨g, 0, none⟩) (len + n) cap) (b ++ news) → W.grownBy w' (some g) → K (a.put o.dst (.slice (some ⟨g, 0, none⟩) (len + n) cap)) w') :
    if Region.wanted o (yielded ops a.tmps) = true then Oper.wp Tryd.prog o a (W.alloc (.cells (arrB news) 5)) K R else E := by
  subst hlen
  have hw : Region.wanted o (yielded ops a.tmps) = true := by simp [Region.wanted, hgd]
  rw [if_pos hw]
  obtain ⟨w', hr, h2, h3⟩ := run_append_room_b w0 W g cap b o.type hown hg0 news n hn hroom
  unfold Oper.wp execOp
  simp only [ho, resolve, invoke, builtin, Sem.run_bind, Sem.run_pure, Result.andThen_ok, List.map_toArray, List.map_cons, List.map_nil, hs, hx, hr]
  exact h w' h2 (gb_trans (World.grownBy_alloc W _ _) h3)
theorem gb_q_own {w0 W w' : World} {v : Value} (hg : W.grownBy w' v.ownBlock) (hq : Q w0 W) (hv : ∀ k, v.ownBlock = some k → w0.heap.size ≤ k) : Q w0 w' :=
  Q.below hq ⟨hg.os, hg.tape, hg.output, by have := hg.size; have := hq.size; omega, fun k hk => hg.block k (Nat.lt_of_lt_of_le hk hq.size) (fun e => by have := hv k e.symm; omega)⟩
/-- append(b, x, ..): the new bytes have just been laid. -/
theorem wpList_append_b {ops : Array Oper} {rest : List Oper} {o : Oper} {a : Act} {R : Exit → Act → World → Prop} (hgd : o.guard = none) (s x : Operand)
    (ho : o.op = .call { callee := .builtin .append, args := #[s, x], argTypes := #[69, 69] })
    (w0 W : World) (v : Value) (b : List UInt8) (hs : a.eval s = v) (hown : OwnB w0 W v b) (hq : Q w0 W) (news : List UInt8) (n : Nat) (hn : news.length = n) (hx : a.eval x = .slice (some ⟨W.heap.size, 0, none⟩) n n) (hb : b.length + n ≤ 211106232532992 ∧ n ≤ 140737488355328)
    (h : ∀ v' w', OwnB w0 w' v' (b ++ news) → Q w0 w' → (W.grownBy w' v.ownBlock ∧ (v'.ownBlock = v.ownBlock ∨ v'.ownBlock = some (W.heap.size + 1))) → wpList Tryd.prog ops R rest (a.put o.dst v') w') : wpList Tryd.prog ops R (o :: rest) a (W.alloc (.cells (arrB news) 5)) := by
  have hq1 := hq.alloc (.cells (arrB news) 5)
  have hA : ∀ k, v.ownBlock = some k → w0.heap.size ≤ k := fun k hk => hown.block hk
  have hown1 : OwnB w0 (W.alloc (.cells (arrB news) 5)) v b := hown.q ((Q.refl W).alloc _)
  obtain ⟨v', w', hr, h2, h3, h4⟩ := run_append_b w0 _ v b o.type hown1 ⟨W.heap.size, 0, none⟩ n n news hn (fun j hj => by
    rw [add_off, Nat.zero_add, cell_of_row _ _ _ _ _ _ (heap_alloc_new W _)]
    simp [arrB, hj]) hb hq1.size
  refine wpList_plain hgd fun K hK => ?_
  unfold Oper.wp execOp
  simp only [ho, resolve, invoke, builtin, Sem.run_bind, Sem.run_pure, Result.andThen_ok, List.map_toArray, List.map_cons, List.map_nil, hs, hx, hr]
  exact hK _ _ (h v' w' h2 (gb_q_own h3 hq1 hA) ⟨gb_trans (World.grownBy_alloc W _ _) h3, by simpa using h4⟩)
/-- append(b, x...): bytes that lie somewhere. -/
theorem wpList_append_from {ops : Array Oper} {rest : List Oper} {o : Oper} {a : Act} {R : Exit → Act → World → Prop} (hgd : o.guard = none) (s x : Operand)
    (ho : o.op = .call { callee := .builtin .append, args := #[s, x], argTypes := #[69, 69] })
    (w0 W : World) (v : Value) (b : List UInt8) (hs : a.eval s = v) (hown : OwnB w0 W v b) (hq : Q w0 W) (ad : Addr) (news : List UInt8) (n c : Nat) (hn : news.length = n) (hx : a.eval x = .slice (some ad) n c)
    (hc : ∀ j (h : j < news.length), W.cell? (ad.add j) = some (u8V news[j])) (hb : b.length + n ≤ 211106232532992 ∧ n ≤ 140737488355328)
    (h : ∀ v' w', OwnB w0 w' v' (b ++ news) → Q w0 w' → (W.grownBy w' v.ownBlock ∧ (v'.ownBlock = v.ownBlock ∨ v'.ownBlock = some W.heap.size)) → wpList Tryd.prog ops R rest (a.put o.dst v') w') : wpList Tryd.prog ops R (o :: rest) a W := by
  have hA : ∀ k, v.ownBlock = some k → w0.heap.size ≤ k := fun k hk => hown.block hk
  obtain ⟨v', w', hr, h2, h3, h4⟩ := run_append_b w0 _ v b o.type hown ad n c news hn hc hb hq.size
  refine wpList_plain hgd fun K hK => ?_
  unfold Oper.wp execOp
  simp only [ho, resolve, invoke, builtin, Sem.run_bind, Sem.run_pure, Result.andThen_ok, List.map_toArray, List.map_cons, List.map_nil, hs, hx, hr]
  exact hK _ _ (h v' w' h2 (gb_q_own h3 hq hA) ⟨h3, h4⟩)
/-- The same as a step of a region that draws its order. -/
theorem step_append_b {ops : Array Oper} {o : Oper} {a : Act} {K : Act → World → Prop} {R : Exit → Act → World → Prop} {E : Prop} (hgd : o.guard = none) (s x : Operand)
    (ho : o.op = .call { callee := .builtin .append, args := #[s, x], argTypes := #[69, 69] })
    (w0 W : World) (v : Value) (b : List UInt8) (hs : a.eval s = v) (hown : OwnB w0 W v b) (hq : Q w0 W) (news : List UInt8) (n : Nat) (hn : news.length = n) (hx : a.eval x = .slice (some ⟨W.heap.size, 0, none⟩) n n) (hb : b.length + n ≤ 211106232532992 ∧ n ≤ 140737488355328)
    (h : ∀ v' w', OwnB w0 w' v' (b ++ news) → Q w0 w' → (W.grownBy w' v.ownBlock ∧ (v'.ownBlock = v.ownBlock ∨ v'.ownBlock = some (W.heap.size + 1))) → K (a.put o.dst v') w') :
    if Region.wanted o (yielded ops a.tmps) = true then Oper.wp Tryd.prog o a (W.alloc (.cells (arrB news) 5)) K R else E := by
  have hw : Region.wanted o (yielded ops a.tmps) = true := by simp [Region.wanted, hgd]
  rw [if_pos hw]
  have hq1 := hq.alloc (.cells (arrB news) 5)
  have hA : ∀ k, v.ownBlock = some k → w0.heap.size ≤ k := fun k hk => hown.block hk
  have hown1 : OwnB w0 (W.alloc (.cells (arrB news) 5)) v b := hown.q ((Q.refl W).alloc _)
  obtain ⟨v', w', hr, h2, h3, h4⟩ := run_append_b w0 _ v b o.type hown1 ⟨W.heap.size, 0, none⟩ n n news hn (fun j hj => by
    rw [add_off, Nat.zero_add, cell_of_row _ _ _ _ _ _ (heap_alloc_new W _)]
    simp [arrB, hj]) hb hq1.size
  unfold Oper.wp execOp
  simp only [ho, resolve, invoke, builtin, Sem.run_bind, Sem.run_pure, Result.andThen_ok, List.map_toArray, List.map_cons, List.map_nil, hs, hx, hr]
  exact h v' w' h2 (gb_q_own h3 hq1 hA) ⟨gb_trans (World.grownBy_alloc W _ _) h3, by simpa using h4⟩
/-- string(b). -/
theorem conv_b {w0 w : World} {v : Value} {b : List UInt8} (h : OwnB w0 w v b) : (convert 69 9 v).run Tryd.prog w = .ok (.string ⟨b.toArray⟩) w := by
  rcases h with ⟨rfl, rfl⟩ | ⟨g, cap, cur, fz, rfl, hbg, hg, hfz, hnc, hcm, hcs, htake⟩
  · have := Lib.run_convert_nil_bytes (P := Tryd.prog) w 69 9 5 0 Tryd.underlying69 Tryd.underlying5 Tryd.underlying9
    rw [this]
  · refine run_convert_bytes_back (P := Tryd.prog) w 69 9 5 ⟨g, 0, none⟩ cap b Tryd.underlying69 Tryd.underlying5 Tryd.underlying9 ?_
    intro i hi
    rw [add_off, Nat.zero_add, cell_of_row w g i cur _ fz hg]
    have e : cur[i]? = (b.map u8V)[i]? := by rw [← htake, List.getElem?_take, if_pos hi, Array.getElem?_toList]
    rw [e]
    simp [u8V, hi]
/-- []byte(s). -/
theorem bytes_of (l : List UInt8) (w : World) (hl : l.length ≤ 9223372036854775807) : ∃ v w', (convert 9 69 (.string ⟨l.toArray⟩)).run Tryd.prog w = .ok v w' ∧ OwnB w w' v l ∧ Q w w' ∧ ∃ cap, v = .slice (some ⟨w.heap.size, 0, none⟩) l.length cap := by
  have hr := run_bytes_of_string (P := Tryd.prog) w 9 69 5 ⟨l.toArray⟩ Tryd.underlying9 Tryd.underlying69 Tryd.underlying5
  have hsz : (ByteArray.mk l.toArray).size = l.length := rfl
  have hge := grownCap_ge w l.length 0 5
  have hcm2 := grownCap_le_maxLen w l.length 0 5 (by unfold maxLen; omega)
  rw [hsz] at hr
  refine ⟨_, _, hr, .inr ⟨w.heap.size, _, _, _, rfl, Nat.le_refl _, heap_alloc_new w.drew _, .inr (Nat.le_refl _), hge, hcm2, ?_, ?_⟩, (Q.refl w).drew.alloc _, _, rfl⟩
  · simp [bytesRow, hsz]; omega
  · simp [bytesRow, u8V]
theorem OwnB.form {w0 w : World} {v : Value} {b : List UInt8} (h : OwnB w0 w v b) : ∃ A cap, v = .slice A b.length cap ∧ b.length ≤ cap ∧ cap ≤ maxLen ∧ (A = none → b = []) ∧ ∀ ad, A = some ad → w0.heap.size ≤ ad.block ∧ ad = ⟨ad.block, 0, none⟩ ∧
    (∀ i, i < b.length → w.cell? ⟨ad.block, i, none⟩ = some (.int .u8 ((gB b i).toNat : Int)) ∧ w.frozen? ⟨ad.block, i, none⟩ = false) := by
  rcases h with ⟨rfl, rfl⟩ | ⟨g, cap, cur, fz, rfl, hbg, hg, hfz, hnc, hcm, hcs, htake⟩
  · exact ⟨none, 0, rfl, Nat.le_refl _, by unfold maxLen; omega, fun _ => rfl, fun ad h => by cases h⟩
  · refine ⟨_, cap, rfl, hnc, hcm, fun h => (by cases h), fun ad h => ?_⟩
    cases h
    refine ⟨hbg, rfl, fun i hi => ⟨?_, frozen_any hg hfz (by omega)⟩⟩
    show w.cell? ⟨g, i, none⟩ = _
    rw [cell_of_row w g i cur _ fz hg]
    have e : cur[i]? = (b.map u8V)[i]? := by rw [← htake, List.getElem?_take, if_pos hi, Array.getElem?_toList]
    rw [e]
    simp [u8V, gB, List.getD, hi]
/-- Such a slice of at least one byte. -/
theorem OwnB.pos {w0 w : World} {v : Value} {b : List UInt8} (h : OwnB w0 w v b) (hb : 0 < b.length) : ∃ g cap, v = .slice (some ⟨g, 0, none⟩) b.length cap ∧ w0.heap.size ≤ g ∧ b.length ≤ cap ∧ cap ≤ maxLen ∧
    ∀ i, i < b.length → w.cell? ⟨g, i, none⟩ = some (.int .u8 ((gB b i).toNat : Int)) ∧ w.frozen? ⟨g, i, none⟩ = false := by
  obtain ⟨A, cap, hv, h1, h2, h3, h4⟩ := h.form
  cases A with
  | none => rw [h3 rfl] at hb; cases hb
  | some ad =>
    obtain ⟨h5, h6, h7⟩ := h4 ad rfl
    exact ⟨ad.block, cap, by rw [hv, ← h6], h5, h1, h2, h7⟩
theorem OwnB.set {w0 w : World} {g n cap : Nat} {b : List UInt8} (h : OwnB w0 w (.slice (some ⟨g, 0, none⟩) n cap) b) (i : Nat) (x : UInt8) : OwnB w0 (w.setCell ⟨g, i, none⟩ (.int .u8 (x.toNat : Int))) (.slice (some ⟨g, 0, none⟩) n cap) (b.set i x) := by
  rcases h with ⟨h, _⟩ | ⟨g', cap', cur, fz, hv, hbg, hg, hfz, hnc, hcm, hcs, htake⟩
  · cases h
  · cases hv
    refine .inr ⟨g, cap, _, fz, by simp, hbg, heap_setCell_any w g i cur _ fz _ hg, ?_, by simpa using hnc, hcm, by simpa using hcs, ?_⟩
    · rcases hfz with h | h
      · exact .inl h
      · right; simpa using h
    · simp only [Array.toList_setIfInBounds, List.length_set]
      rw [List.take_set, htake, List.map_set]
      rfl
/-- make([]byte, 0, n). -/
theorem make_b (n : Nat) (w : World) (hn : n ≤ 281474976710656) : ∃ w', (Instr.makeSlice 69 (.int .i64 0) (.int .i64 (n : Int))).run Tryd.prog w = .ok (.slice (some ⟨w.heap.size, 0, none⟩) 0 n) w' ∧ OwnB w w' (.slice (some ⟨w.heap.size, 0, none⟩) 0 n) [] ∧ Q w w' := by
  obtain ⟨i, hi, hz, hsz, hby⟩ := info_parts info_u8
  have h := run_make (P := Tryd.prog) w 69 5 i _ Tryd.underlying69 hi hz .i64 .i64 0 (n : Int) (by omega) (by omega) (by rw [hby]; omega) (by omega)
  refine ⟨_, h, .inr ⟨w.heap.size, n, _, (0, 0), rfl, Nat.le_refl _, heap_alloc_new w _, .inl rfl, Nat.zero_le _, by unfold maxLen; omega, ?_, rfl⟩, (Q.refl w).alloc _⟩
  rw [size_madeCells, hsz]; simp
end Go.Proofs.YtjbdjkpbkjkdpaaDoor
/- Numbers of 32 bits as rows of bits; joins of bytes. -/
namespace Go.Proofs.YtjbdjkpbkjkdpaaDoor
open Go Go.RowKit

/-- A number of 32 bits as the walk holds it. -/
theorem ofInt32 (x : BitVec 32) : BitVec.ofInt 32 (x.toNat : Int) = x := by simp
theorem wrap32_lt (x : BitVec 32) : IntKind.u32.wrap (x.toNat : Int) = (x.toNat : Int) := by
  rw [IntKind.wrap_u32]; have := x.isLt; omega
theorem xor32 (x y : BitVec 32) : bits .xor .u32 (x.toNat : Int) (y.toNat : Int) = ((x ^^^ y).toNat : Int) := by
  show IntKind.u32.wrap ((BitVec.ofInt 32 _ ^^^ BitVec.ofInt 32 _).toNat : Int) = _
  rw [ofInt32, ofInt32, wrap32_lt]
theorem and32 (x y : BitVec 32) : bits .and .u32 (x.toNat : Int) (y.toNat : Int) = ((x &&& y).toNat : Int) := by
  show IntKind.u32.wrap ((BitVec.ofInt 32 _ &&& BitVec.ofInt 32 _).toNat : Int) = _
  rw [ofInt32, ofInt32, wrap32_lt]
theorem or32 (x y : BitVec 32) : bits .or .u32 (x.toNat : Int) (y.toNat : Int) = ((x ||| y).toNat : Int) := by
  show IntKind.u32.wrap ((BitVec.ofInt 32 _ ||| BitVec.ofInt 32 _).toNat : Int) = _
  rw [ofInt32, ofInt32, wrap32_lt]
theorem not32 (x : BitVec 32) : bits .xor .u32 4294967295 (x.toNat : Int) = ((~~~x).toNat : Int) := by
  have e : (4294967295 : Int) = ((BitVec.allOnes 32).toNat : Int) := by decide
  rw [e, xor32, BitVec.allOnes_xor]
theorem not32m (x : BitVec 32) : bits .xor .u32 IntKind.u32.max (x.toNat : Int) = ((~~~x).toNat : Int) := not32 x
theorem shr32 (x : BitVec 32) : (x.toNat : Int) / (2 : Int) = ((x >>> 1).toNat : Int) := by
  rw [BitVec.toNat_ushiftRight, Nat.shiftRight_eq_div_pow]; omega
theorem add32 (x y : BitVec 32) : ((x.toNat : Int) + (y.toNat : Int)) % 4294967296 = ((x + y).toNat : Int) := by
  rw [BitVec.toNat_add]; omega
theorem of32 (n : Int) (h0 : 0 ≤ n) (h1 : n < 4294967296) : ∃ x : BitVec 32, n = (x.toNat : Int) :=
  ⟨BitVec.ofNat 32 n.toNat, by rw [BitVec.toNat_ofNat]; omega⟩

theorem wraps_i64 (n : Int) (h₀ : 0 ≤ n) (h₁ : n < 2 ^ 63) : IntKind.i64.wrap n = n := by rw [IntKind.wrap_i64]; omega
theorem or_i64 (i : Nat) (x y : Int) (hx₀ : 0 ≤ x) (hx : x % 2 ^ i = 0) (hx₁ : x < 2 ^ 63) (hy₀ : 0 ≤ y) (hy : y < 2 ^ i) (hy₁ : y < 2 ^ 63) : bits .or .i64 x y = x + y :=
  bits_join .i64 63 (by decide) wraps_i64 i x y hx₀ hx hx₁ hy₀ hy hy₁
/-- Four bytes are one number. -/
theorem or_four (a b c d : Int) (a0 : 0 ≤ a) (a1 : a < 256) (b0 : 0 ≤ b) (b1 : b < 256) (c0 : 0 ≤ c) (c1 : c < 256) (d0 : 0 ≤ d) (d1 : d < 256) :
    bits .or .i64 (bits .or .i64 (bits .or .i64 (a * 16777216) (b * 65536)) (c * 256)) d = a * 16777216 + b * 65536 + c * 256 + d := by
  rw [or_i64 24 (a * 16777216) (b * 65536) (by omega) (by omega) (by omega) (by omega) (by omega) (by omega)]
  rw [or_i64 16 (a * 16777216 + b * 65536) (c * 256) (by omega) (by omega) (by omega) (by omega) (by omega) (by omega)]
  rw [or_i64 8 (a * 16777216 + b * 65536 + c * 256) d (by omega) (by omega) (by omega) (by omega) (by omega) (by omega)]
end Go.Proofs.YtjbdjkpbkjkdpaaDoor
/- CRC-32C on rows of bits: one bit, one byte, a text. -/
set_option linter.unusedVariables false
namespace Go.Proofs.YtjbdjkpbkjkdpaaDoor
def sh1 (r : BitVec 32) : BitVec 32 := if r &&& 1#32 = 1#32 then (r >>> 1) ^^^ 0x82F63B78#32 else r >>> 1
def shN : Nat → BitVec 32 → BitVec 32
  | 0, r => r
  | n + 1, r => sh1 (shN n r)
def bv8 (b : UInt8) : BitVec 32 := BitVec.ofNat 32 b.toNat
def shB (r : BitVec 32) (b : UInt8) : BitVec 32 := shN 8 (r ^^^ bv8 b)
def shL (r : BitVec 32) (l : List UInt8) : BitVec 32 := l.foldl shB r
def bnot (x : BitVec 32) : BitVec 32 := ~~~ x
theorem bnot_bnot (x : BitVec 32) : bnot (bnot x) = x := BitVec.not_not
def crcMore (s : BitVec 32) (l : List UInt8) : BitVec 32 := bnot (shL (bnot s) l)
def crcSum (l : List UInt8) : BitVec 32 := crcMore 0#32 l
theorem bv8_toNat (b : UInt8) : ((bv8 b).toNat : Int) = (b.toNat : Int) := by
  unfold bv8; rw [BitVec.toNat_ofNat]; have := b.toNat_lt; omega
theorem shL_snoc (r : BitVec 32) (l : List UInt8) (b : UInt8) : shL r (l ++ [b]) = shB (shL r l) b := by
  unfold shL; rw [List.foldl_append]; rfl
theorem shL_append (r : BitVec 32) (l m : List UInt8) : shL r (l ++ m) = shL (shL r l) m := by
  unfold shL; rw [List.foldl_append]
end Go.Proofs.YtjbdjkpbkjkdpaaDoor
/- frame's small functions. -/
set_option linter.unusedVariables false
namespace Go.Proofs.YtjbdjkpbkjkdpaaDoor
open Go Go.RowKit
def U32 (n : Int) : List UInt8 := [byteOf (n / 16777216 % 256), byteOf (n / 65536 % 256), byteOf (n / 256 % 256), byteOf (n % 256)]
def r32 (l : List UInt8) : Int := (gB l 0).toNat * 16777216 + (gB l 1).toNat * 65536 + (gB l 2).toNat * 256 + (gB l 3).toNat
theorem length_U32 (n : Int) : (U32 n).length = 4 := rfl

set_option maxHeartbeats 400000 in
theorem u32_any (n : Int) (w : World) (h0 : 0 ≤ n) (h1 : n ≤ 9223372036854775807) :
    Calls Tryd.prog 53 #[.int .i64 n] w fun e w' => e = .returned (.string ⟨(U32 n).toArray⟩) ∧ Q w w' := by
  have hc : ∀ (w : World) (cap : Nat), (convert 69 9 (.slice (some ⟨w.heap.size, 0, none⟩) 4 cap)).run Tryd.prog (w.alloc (.cells #[.int .u8 (n / 16777216 % 256), .int .u8 (n / 65536 % 256), .int .u8 (n / 256 % 256), .int .u8 (n % 256)] 5)) =
      .ok (.string ⟨(U32 n).toArray⟩) (w.alloc (.cells #[.int .u8 (n / 16777216 % 256), .int .u8 (n / 65536 % 256), .int .u8 (n / 256 % 256), .int .u8 (n % 256)] 5)) :=
    fun w cap => conv_bytes4 w _ _ _ cap _ _ _ _ Tryd.underlying69 Tryd.underlying5 Tryd.underlying9 (by omega) (by omega) (by omega) (by omega)
  go_enter Tryd.func53, Tryd.ntmps53
  go_wp2
  go_ret
  exact ⟨rfl, (Q.refl _).alloc _⟩
set_option maxHeartbeats 400000 in
theorem read32_any (l : List UInt8) (w : World) (h0 : 4 ≤ l.length) :
    Calls Tryd.prog 62 #[.string ⟨l.toArray⟩] w fun e w' => e = .returned (.int .i64 (r32 l)) ∧ Q w w' := by
  have b0 := gB_lt l 0
  have b1 := gB_lt l 1
  have b2 := gB_lt l 2
  have b3 := gB_lt l 3
  have hr : bits .or .i64 (bits .or .i64 (bits .or .i64 (((gB l 0).toNat : Int) * 16777216) (((gB l 1).toNat : Int) * 65536)) (((gB l 2).toNat : Int) * 256)) ((gB l 3).toNat : Int) = r32 l :=
    or_four _ _ _ _ (by omega) (by omega) (by omega) (by omega) (by omega) (by omega) (by omega) (by omega)
  go_enter Tryd.func62, Tryd.ntmps62
  go_wp2
  refine wp_region_q (by kernel_rfl) (by kernel_rfl) ?_
  repeat (go_big_quiet_step (fail))
  refine wpQuiet_nil ?_
  rintro _ ⟨⟨w1, hq1⟩, rfl⟩
  go_wp2
  go_ret
  exact ⟨rfl, hq1⟩

def endsN (n : Int) : Int := (n + 87) / 64 * 64
set_option maxHeartbeats 400000 in
theorem ends_any (n : Int) (w : World) (h0 : 0 ≤ n) (h1 : n ≤ 4294967296) :
    Calls Tryd.prog 57 #[.int .i64 n] w fun e w' => e = .returned (.int .i64 (endsN n)) ∧ w = w' := by
  go_enter Tryd.func57, Tryd.ntmps57
  go_wp2
  go_ret
  exact ⟨ret_int (by unfold endsN; omega), rfl⟩
def rightB (e n : Int) : Bool := decide (0 ≤ e ∧ e ≤ 4611686018427387904 ∧ 0 ≤ n ∧ n ≤ 4294967295)
set_option maxHeartbeats 400000 in
theorem right_any (e n : Int) (w : World) :
    Calls Tryd.prog 51 #[.int .i64 e, .int .i64 n] w fun x w' => x = .returned (.bool (rightB e n)) ∧ w = w' := by
  go_enter Tryd.func51, Tryd.ntmps51
  go_wp2
  all_goals (go_ret; exact ⟨ret_eq (congrArg Value.bool (by unfold rightB; rw [Bool.eq_iff_iff]; simp; omega)), rfl⟩)

theorem and1_32 (y : BitVec 32) : (bits .and .u32 (y.toNat : Int) 1 == 1) = decide (y &&& 1#32 = 1#32) := by
  have e : (1 : Int) = ((1#32).toNat : Int) := by decide
  rw [e, and32, Bool.eq_iff_iff]
  simp only [beq_iff_eq, decide_eq_true_eq]
  rw [← BitVec.toNat_inj]; omega
theorem poly32 (y : BitVec 32) : bits .xor .u32 ((y.toNat : Int) / 2) 2197175160 = (((y >>> 1) ^^^ 0x82F63B78#32).toNat : Int) := by
  have e : (2197175160 : Int) = ((0x82F63B78#32).toNat : Int) := by decide
  rw [e, shr32, xor32]
theorem sh1_odd {y : BitVec 32} (h : (bits .and .u32 (y.toNat : Int) 1 == 1) = true) : bits .xor .u32 ((y.toNat : Int) / 2) 2197175160 = ((sh1 y).toNat : Int) := by
  rw [and1_32] at h
  rw [poly32, sh1, if_pos (of_decide_eq_true h)]
theorem sh1_even {y : BitVec 32} (h : (bits .and .u32 (y.toNat : Int) 1 == 1) = false) : (y.toNat : Int) / 2 = ((sh1 y).toNat : Int) := by
  rw [and1_32] at h
  rw [shr32, sh1, if_neg (of_decide_eq_false h)]

set_option maxHeartbeats 400000 in
theorem shift_any (r : BitVec 32) (b : UInt8) (w : World) :
    Calls Tryd.prog 70 #[.int .u32 (r.toNat : Int), .int .u8 (b.toNat : Int)] w fun e w' => e = .returned (.int .u32 ((shB r b).toNat : Int)) ∧ w = w' := by
  have r1 := r.isLt
  have b1 := b.toNat_lt
  have hx : bits .xor .u32 (r.toNat : Int) (b.toNat : Int) = ((r ^^^ bv8 b).toNat : Int) := by rw [← bv8_toNat, xor32]
  go_enter Tryd.func70, Tryd.ntmps70
  go_wp2
  go_loop [0, 9] (fun t i => ∃ k : Nat, k ≤ 8 ∧ i = .int .i64 k ∧ t = .int .u32 ((shN k (r ^^^ bv8 b)).toNat : Int)) (fun _ i => 8 - (intOf i).toNat)
  case atStart => exact ⟨0, by omega, rfl, rfl⟩
  case round =>
    obtain ⟨k, hk, rfl, rfl⟩ := hrel
    have y1 := (shN k (r ^^^ bv8 b)).isLt
    go_wp2
    · go_round
      case rel => exact ⟨k + 1, by omega, by go_num, by rw [sh1_odd ‹_›]; rfl⟩
      case measure => simp [intOf]; omega
    · go_round
      case rel => exact ⟨k + 1, by omega, by go_num, by rw [sh1_even ‹_›]; rfl⟩
      case measure => simp [intOf]; omega
    · go_ret
      obtain rfl : k = 8 := by omega
      exact ⟨rfl, rfl⟩
end Go.Proofs.YtjbdjkpbkjkdpaaDoor
/- strings.Clone; the number that stands at a place. -/
set_option linter.unusedVariables false
namespace Go.Proofs.YtjbdjkpbkjkdpaaDoor
open Go Go.RowKit
/-- The number that stands at a place. -/
def nAt (l : List UInt8) (at_ : Nat) : Nat := (r32 (sub l at_ l.length)).toNat
theorem r32_bd (l : List UInt8) : 0 ≤ r32 l ∧ r32 l < 4294967296 := by
  unfold r32; have := gB_lt l 0; have := gB_lt l 1; have := gB_lt l 2; have := gB_lt l 3; omega
theorem nAt_r32 (l : List UInt8) (k : Nat) : r32 (sub l k l.length) = (nAt l k : Int) := by
  unfold nAt; have := r32_bd (sub l k l.length); omega
theorem nAt_zero (l : List UInt8) : r32 l = (nAt l 0 : Int) := by
  rw [← nAt_r32]; simp [sub]
set_option maxHeartbeats 400000 in
theorem Clone_any (l : List UInt8) (w : World) (hl : l.length ≤ 140737488355328) :
    Calls Tryd.prog 63 #[.string ⟨l.toArray⟩] w fun e w' => e = .returned (.string ⟨l.toArray⟩) ∧ Q w w' := by
  go_enter Tryd.func63, Tryd.ntmps63
  go_wp2_with (go_at_call 77; refine (Tryd.stringslite_Clone _ _ (by simp [ByteArray.size]; omega)).mono ?_; rintro e w1 ⟨rfl, hq1⟩)
  go_ret
  exact ⟨rfl, ‹_›⟩
end Go.Proofs.YtjbdjkpbkjkdpaaDoor
/- copy onto part of a block, out of a text. -/
set_option linter.unusedVariables false
namespace Go.Proofs.YtjbdjkpbkjkdpaaDoor
open Go Go.RowKit
/-- copy onto part of a block, out of a text. -/
theorem wpList_copy_str {P : Program} {ops : Array Oper} {rest : List Oper} {o : Oper} {a : Act} {w : World} {R : Exit → Act → World → Prop} (hgd : o.guard = none) (d x : Operand) (dT sT elem : TypeId)
    (hop : o.op = .call { callee := .builtin .copy, args := #[d, x], argTypes := #[dT, sT] }) (hu : P.underlying dT = some (.slice elem)) (hs : (P.info? elem).map (·.size) = some 1)
    (g off dLen dCap : Nat) (hd : a.eval d = .slice (some ⟨g, off, none⟩) dLen dCap) (s : List UInt8) (hx : a.eval x = .string ⟨s.toArray⟩) (cur : Array Value) (t : TypeId) (hg : w.heap[g]? = some (.cells cur t (0, 0)))
    (p : List UInt8) (hp : s.take dLen = p) (hfit : off + p.length ≤ cur.size)
    (h : wpList P ops R rest (a.put o.dst (goInt p.length)) (w.setRow g (cur.toList.take off ++ Lib.byteCells p ++ cur.toList.drop (off + p.length)).toArray)) : wpList P ops R (o :: rest) a w := by
  have hrun : (Builtin.copy_ #[dT, sT] o.type #[.slice (some ⟨g, off, none⟩) dLen dCap, .string ⟨s.toArray⟩]).run P w = .ok (goInt p.length) (w.setRow g (cur.toList.take off ++ Lib.byteCells p ++ cur.toList.drop (off + p.length)).toArray) := by
    have hst := run_storeCells_at P g off t (Lib.byteCells p) 0 cur w hg (by rw [Lib.byteCells_length]; simpa using hfit) (Lib.byteCells_one _)
    rw [Lib.byteCells_length] at hst
    simp only [Nat.add_zero] at hst
    have hsz : (ByteArray.mk s.toArray).size = s.length := rfl
    have hmin : Nat.min s.length dLen = p.length := by rw [← hp, List.length_take]; exact Nat.min_comm _ _
    have htk : List.take p.length (List.map (fun b : UInt8 => Value.int IntKind.u8 (b.toNat : Int)) s) = Lib.byteCells p := by
      rw [← hp, List.length_take, ← List.map_take]
      unfold Lib.byteCells
      congr 1
      rcases Nat.le_total dLen s.length with h | h
      · rw [Nat.min_eq_left h]
      · rw [Nat.min_eq_right h, List.take_length, List.take_of_length_le h]
    cases hq : P.info? elem with
    | none => simp [hq] at hs
    | some i =>
      simp [Builtin.copy_, run_underlying hu, Builtin.lenOf, Builtin.firstCells, sizeOf, typeInfo, hq, hsz, hmin]
      rw [htk, hst]
      simp [Result.andThen]
  refine wpList_plain hgd fun K hK => ?_
  have hfin := hK _ _ h
  generalize w.setRow g (cur.toList.take off ++ Lib.byteCells p ++ cur.toList.drop (off + p.length)).toArray = W at *
  unfold Oper.wp
  simp [execOp, hop, resolve, invoke, builtin, hd, hx, hrun, Result.andThen]
  exact hfin
end Go.Proofs.YtjbdjkpbkjkdpaaDoor
/- A region that draws its order: operations that read no memory may be taken first; what is left has a forced order. -/
set_option linter.unusedVariables false
namespace Go.Proofs.YtjbdjkpbkjkdpaaDoor
open Go Go.RowKit
def pureOp : Op → Bool
  | .move _ | .assign _ | .nilCheck _ | .pick .. | .build .. | .load .. | .binOp .. | .unOp .. | .convert .. | .slice .. | .fieldAddr .. | .field .. | .indexAddr .. | .index .. | .extract .. => true
  | .call c => (match c.callee with | .builtin .len => true | _ => false)
  | _ => false
theorem pure_run {P : Program} {ρ : Operand → Value} {o : Oper} {w w' : World} {n : Next} (hp : pureOp o.op = true) (h : (execOp ρ o).run P w = .ok n w') : ∃ v, n = .value v := by
  have key : ∀ s : Sem Value, (do pure (Next.value (← s)) : Sem Next).run P w = .ok n w' → ∃ v, n = .value v := by
    intro s hs
    simp only [Sem.run_bind, Sem.run_pure] at hs
    cases hq : s.run P w with
    | ok x u => rw [hq] at hs; simp [Result.andThen] at hs; exact ⟨x, hs.1.symm⟩
    | halt x u => rw [hq] at hs; simp [Result.andThen] at hs
  obtain ⟨dst, op, type, pos, after, guard⟩ := o
  cases op <;> simp only [pureOp, Bool.false_eq_true] at hp <;> unfold execOp at h <;> simp only at h
  case move x => simp only [Sem.run_pure] at h; cases h; exact ⟨_, rfl⟩
  case assign x => simp only [Sem.run_pure] at h; cases h; exact ⟨_, rfl⟩
  case pick c a b =>
    simp only [Sem.run_bind, Sem.run_pure] at h
    cases hq : (asBool (ρ c)).run P w with
    | ok x u => rw [hq] at h; simp [Result.andThen] at h; exact ⟨_, h.1.symm⟩
    | halt x u => rw [hq] at h; simp [Result.andThen] at h
  case call c =>
    obtain ⟨ce, ar, ts⟩ := c
    cases ce with
    | builtin b =>
      cases b <;> simp only [Bool.false_eq_true] at hp
      simp only [resolve, invoke, Sem.run_bind, Sem.run_pure, Result.andThen, builtin] at h
      cases hq : (Builtin.len_ ts type (Array.map ρ ar)).run P w with
      | ok x u => rw [hq] at h; simp at h; exact ⟨_, h.1.symm⟩
      | halt x u => rw [hq] at h; simp at h
    | invoke x y => simp only [Bool.false_eq_true] at hp
    | value x => simp only [Bool.false_eq_true] at hp
  case nilCheck x =>
    have kb : ∀ {α : Type} (s : Sem α) (f : α → Sem Next) (w : World), (∀ a w1, (f a).run P w1 = .ok n w' → ∃ v, n = .value v) → (s >>= f).run P w = .ok n w' → ∃ v, n = .value v := fun s f w hf h => by
      rw [Sem.run_bind] at h
      cases hq : s.run P w with
      | ok a w1 => rw [hq] at h; exact hf a w1 h
      | halt y w1 => rw [hq] at h; cases h
    have kp : ∀ (v : Value) (w : World), (pure (Next.value v) : Sem Next).run P w = .ok n w' → ∃ v, n = .value v := fun v w h => by
      simp only [Sem.run_pure] at h; cases h; exact ⟨_, rfl⟩
    have kn : (runtimePanic .nilDeref : Sem Next).run P w = .ok n w' → ∃ v, n = .value v := fun h => by
      unfold runtimePanic at h
      refine kb _ _ _ (fun a w1 h => ?_) h
      simp [goPanic] at h
    split at h
    · exact kn h
    · exact kn h
    · exact kn h
    · split at h
      · exact kn h
      · refine kb _ _ _ (fun a w1 h => kb _ _ _ (fun b w2 h => ?_) h) h
        split at h
        · exact kb _ _ _ (fun _ w3 h => kp _ _ h) h
        · exact kp _ _ h
      · exact kp _ _ h
    · exact kp _ _ h
  all_goals exact key _ h
def pureB (md : Region.Mode) (ops : Array Oper) : List Nat → Array Bool → Bool
  | [], _ => true
  | k :: r, ls => (match ops[k]? with | some o => pureOp o.op | none => false) && Region.free md ops ls k && (Region.ready md ops ls).contains k && pureB md ops r (ls.setIfInBounds k true)
def markB : List Nat → Array Bool → Array Bool
  | [], ls => ls
  | k :: r, ls => markB r (ls.setIfInBounds k true)
def tailB (md : Region.Mode) (ops : Array Oper) : List Nat → Array Bool → Bool
  | [], ls => (Region.ready md ops ls).isEmpty
  | k :: r, ls => decide (Region.ready md ops ls = [k]) && (ops[k]?).isSome && tailB md ops r (ls.setIfInBounds k true)
section
variable {P : Program} {ops : Array Oper} {R : Exit → Act → World → Prop}
theorem wpQuiet_mono {C : World → Prop} {K K' : Act → Prop} (hk : ∀ a, K a → K' a) (l : List Oper) : ∀ a, wpQuiet P ops C K l a → wpQuiet P ops C K' l a := by
  induction l with
  | nil => intro a h; exact hk a h
  | cons o r ih =>
    intro a h
    unfold wpQuiet at h ⊢
    split
    · next hw => rw [if_pos hw] at h; exact Oper.quiet_mono ih h
    · next hw => rw [if_neg hw] at h; exact ih _ h
theorem any_tail (tl : List Nat) : ∀ (ls : Array Bool) (a : Act) (w : World), tailB .any ops tl ls = true → wpList P ops R (tl.map (ops.getD · default)) a w → wpAnyH P .any ops R (fun _ => True) tl.length ls a w := by
  induction tl with
  | nil => intro ls a w hB h; exact ⟨by simpa [tailB] using hB, h⟩
  | cons k r ih =>
    intro ls a w hB h
    simp only [tailB, Bool.and_eq_true, decide_eq_true_eq] at hB
    refine wpAnyH_all hB.1.1 (by simp) fun i hi => ?_
    have e : i = k := by simpa using hi
    subst e
    obtain ⟨o, ho⟩ := Option.isSome_iff_exists.1 hB.1.2
    have hk : ops.getD i default = o := by simp [Array.getD_eq_getD_getElem?, ho]
    rw [List.map_cons, hk] at h
    have hw : wpOp P ops R i (wpList P ops R (r.map (ops.getD · default))) a w := by unfold wpOp; simp only [ho]; exact h
    exact wpOp_mono (fun a' w' h' => ⟨trivial, ih _ a' w' hB.2 h'⟩) hw
theorem any_head (hsel : Region.noSelect ops = true) (hQ : ∀ c a d v w, R (.panic c) (Act.put a d v) w → R (.panic c) a w) (f : Nat) (w : World) (hd : List Nat) : ∀ (ls : Array Bool) (a : Act), pureB .any ops hd ls = true →
    wpQuiet P ops (fun _ => True) (fun a' => wpAnyH P .any ops R (fun _ => True) f (markB hd ls) a' w) (hd.map (ops.getD · default)) a → wpAnyH P .any ops R (fun _ => True) (hd.length + f) ls a w := by
  induction hd with
  | nil => intro ls a hB h; rw [List.length_nil, Nat.zero_add]; exact h
  | cons k r ih =>
    intro ls a hB h
    simp only [pureB, Bool.and_eq_true] at hB
    cases ho : ops[k]? with
    | none => rw [ho] at hB; simp at hB
    | some o =>
      rw [ho] at hB
      have hk : ops.getD k default = o := by simp [Array.getD_eq_getD_getElem?, ho]
      rw [List.map_cons, hk] at h
      have h2 : if Region.wanted o (yielded ops a.tmps) then o.quiet P a (fun _ => True) (wpQuiet P ops (fun _ => True) (fun a' => wpAnyH P .any ops R (fun _ => True) f (markB (k :: r) ls) a' w) (r.map (ops.getD · default)))
        else wpQuiet P ops (fun _ => True) (fun a' => wpAnyH P .any ops R (fun _ => True) f (markB (k :: r) ls) a' w) (r.map (ops.getD · default)) (a.put o.dst undef) := h
      rw [List.length_cons, Nat.add_right_comm]
      split at h2
      · next hw =>
        obtain ⟨v, hv, hn⟩ := h2
        refine wpAnyH_take ho hsel hB.1.1.2 hB.1.2 (fun c a w => hQ c a _ _ w) (.inl ⟨hw, fun w' _ => ?_⟩) trivial (ih _ _ hB.2 hn)
        have h3 := hv w' trivial
        unfold Oper.quietAt at h3
        cases hr : (execOp a.eval o).run P w' with
        | halt x u => rw [hr] at h3; simp only [Oper.quietUpon] at h3
        | ok n u =>
          obtain ⟨x, rfl⟩ := pure_run hB.1.1.1 hr
          rw [hr] at h3
          simp only [Oper.quietUpon] at h3
          rw [h3.1, h3.2]
      · next hw =>
        exact wpAnyH_take ho hsel hB.1.1.2 hB.1.2 (fun c a w => hQ c a _ _ w) (.inr ⟨by simpa using hw, rfl⟩) trivial (ih _ _ hB.2 h2)
end
/-- Those of 'hd' are taken first, in that order; those of 'tl' come behind them, in that order. -/
theorem wp_region_pure {P : Program} {id : Nat} {R : Exit → Act → World → Prop} {a : Act} {w : World} {l : List Oper} (hd tl : List Nat) (hm : P.follows .mixedOrders = true)
    (hB : (Region.noSelect l.toArray && pureB .any l.toArray hd (Array.replicate l.length false) && tailB .any l.toArray tl (markB hd (Array.replicate l.length false)) && decide (hd.length + tl.length = l.length)) = true)
    (hQ : ∀ c a d v w, R (.panic c) (Act.put a d v) w → R (.panic c) a w)
    (h : wpQuiet P l.toArray (fun _ => True) (fun a' => wpList P l.toArray R (tl.map (l.toArray.getD · default)) a' w.drew) (hd.map (l.toArray.getD · default)) a) : (Code.region id l.toArray true).wp P R a w := by
  simp only [Bool.and_eq_true, decide_eq_true_eq] at hB
  obtain ⟨⟨⟨h1, h2⟩, h3⟩, h4⟩ := hB
  refine wp_region_held (S := fun _ => True) hm ?_
  have e : l.toArray.size = hd.length + tl.length := by simp [h4]
  rw [e]
  have e2 : Array.replicate (hd.length + tl.length) false = Array.replicate l.length false := by rw [h4]
  rw [e2]
  refine any_head h1 hQ tl.length _ hd _ a h2 ?_
  exact wpQuiet_mono (fun a' h' => any_tail tl _ a' _ h3 h') _ _ h
end Go.Proofs.YtjbdjkpbkjkdpaaDoor
/- A region that draws its order: reads and calls that may lay new memory ahead, then a tail in a forced order that writes. -/
set_option linter.unusedVariables false
namespace Go.Proofs.YtjbdjkpbkjkdpaaDoor
open Go Go.RowKit

section
variable {P : Program} {ops : Array Oper} {md : Region.Mode} {C : World → Prop}
/-- Whatever order is picked among the first n operations. -/
def headQ (P : Program) (md : Region.Mode) (ops : Array Oper) (C : World → Prop) (n : Nat) (L : Array Bool → Act → Prop) : Nat → Array Bool → Act → Prop
  | 0, ls, a => L ls a
  | f + 1, ls, a => Region.ready md ops ls ≠ [] ∧ ∀ i ∈ Region.ready md ops ls, i < n ∧ qOp P ops C i (headQ P md ops C n L f (ls.setIfInBounds i true)) a
theorem any_of_headQ {n g : Nat} {L : Array Bool → Act → Prop} {R : Exit → Act → World → Prop} (hL : ∀ ls a w, C w → L ls a → wpAny P md ops R g ls a w) (f : Nat) :
    ∀ (ls : Array Bool) (a : Act) (w : World), C w → headQ P md ops C n L f ls a → wpAny P md ops R (f + g) ls a w := by
  induction f with
  | zero => intro ls a w hw h; rw [Nat.zero_add]; exact hL _ _ _ hw h
  | succ f ih =>
    intro ls a w hw h
    rw [Nat.add_right_comm]
    exact ⟨fun h0 => (h.1 h0).elim, fun i hi => wpOp_of_qOp hw (fun a' w' hw' hk => ih _ a' w' hw' hk) (h.2 i hi).2⟩
/-- One that may come up now may be taken first. -/
theorem headQ_first {n i : Nat} {oi : Oper} {v : Value} {L : Array Bool → Act → Prop} (hi : ops[i]? = some oi) (hsel : ∀ (j : Nat) (o : Oper) cs b, ops[j]? = some o → o.op ≠ .select cs b)
    (hs : Region.sinkB md ops n = true) (hc : Region.chainB md ops n = true) (hn : n < ops.size) (hin : i < n) (hdone : ∀ ls a, L ls a → ∀ j ∈ Region.ready md ops ls, n ≤ j) (f : Nat) :
    ∀ (ls : Array Bool) (a : Act), HeadInv md ops n ls →
      (∀ j oj, ops[j]? = some oj → j ≠ i → ls.getD j true = false → (∀ e ∈ oj.after, Region.binds md e = true → e.on ≠ i) → oi.apart ops oj = true) →
      i ∈ Region.ready md ops ls → YieldsIn P ops C oi v a → headQ P md ops C n L f (ls.setIfInBounds i true) (a.put oi.dst v) → headQ P md ops C n L (f + 1) ls a := by
  induction f with
  | zero =>
    intro ls a inv _ hr hy H
    have hun := (mem_ready.1 hr).1
    refine ⟨List.ne_nil_of_mem hr, fun j hj => ?_⟩
    have hjn : j < n := Nat.lt_of_not_le fun h => tail_waits hs hc hn inv _ i rfl hin hun j h hj
    by_cases e : j = i
    · rw [e] at hjn ⊢; exact ⟨hjn, hy.qOp hi H⟩
    · exact absurd (hdone _ _ H j (ready_mono hj e)) (Nat.not_le.2 hjn)
  | succ f ih =>
    intro ls a inv hfree hr hy H
    have hun := (mem_ready.1 hr).1
    refine ⟨List.ne_nil_of_mem hr, fun j hj => ?_⟩
    have hjn : j < n := Nat.lt_of_not_le fun h => tail_waits hs hc hn inv _ i rfl hin hun j h hj
    by_cases e : j = i
    · rw [e] at hjn ⊢; exact ⟨hjn, hy.qOp hi H⟩
    · refine ⟨hjn, ?_⟩
      obtain ⟨hjun, oj, hoj, hall⟩ := mem_ready.1 hj
      have hno : ∀ x ∈ oj.after, Region.binds md x = true → x.on ≠ i := by
        intro x hx hb he
        have := hall x hx hb
        rw [he, getD_both hun] at this
        cases this
      have h2 := qOp_put hoj (hfree j oj hoj e hjun hno) (fun cs b => hsel i oi cs b hi) (fun cs b => hsel j oj cs b hoj) hy (H.2 j (ready_mono hj e)).2
      refine qOp_mono (fun a' h3 => ih _ a' (inv.set hj hjn) (fun k ok hk hki hku hkn => hfree k ok hk hki ?_ hkn) (ready_mono hr (Ne.symm e)) h3.1 (by rw [Array.setIfInBounds_comm _ _ e]; exact h3.2)) h2
      by_cases hjk : j = k
      · rw [← hjk]; exact hjun
      · rwa [getD_set_ne true hjk] at hku
theorem headQ_lex {n g : Nat} {K : Act → Prop} (hsel : Region.noSelect ops = true) (hs : Region.sinkB md ops n = true) (hc : Region.chainB md ops n = true) (hn : n < ops.size) (l : List Oper) :
    ∀ (k : Nat) (ls : Array Bool) (a : Act), (∀ j, j < l.length → l[j]? = ops[k + j]?) → k + l.length = n → HeadInv md ops n ls →
    Region.lexHead md ops g l.length k ls = true → wpQuiet P ops C K l a → headQ P md ops C n (fun ls' a' => Region.seqB md ops g n ls' = true ∧ K a') l.length ls a := by
  induction l with
  | nil =>
    intro k ls a _ hk _ hB h
    have e : k = n := by simpa using hk
    exact ⟨by rw [← e]; simpa [Region.lexHead] using hB, h⟩
  | cons o l ih =>
    intro k ls a hl hk inv hB h
    have h0 : ops[k]? = some o := by simpa using (hl 0 (by simp)).symm
    simp only [List.length_cons, Region.lexHead, Bool.and_eq_true] at hB hk
    have hkn : k < n := by omega
    have hr : k ∈ Region.ready md ops ls := by simpa using hB.1.1
    have hq : qOp P ops C k (wpQuiet P ops C K l) a := by unfold qOp; simp only [h0]; exact h
    obtain ⟨v, hy, hK⟩ := yieldsIn_of_qOp h0 hq
    refine headQ_first h0 (Region.noSelect_spec hsel) hs hc hn hkn (fun ls' a' hL => seqB_ready hL.1) l.length ls a inv (Region.free_spec h0 hB.1.2) hr hy ?_
    refine ih (k + 1) _ _ (fun j hj => ?_) (by omega) (inv.set hr hkn) hB.2 hK
    have := hl (j + 1) (by simp; omega)
    simpa [Nat.add_assoc, Nat.add_comm 1 j] using this
theorem wp_region_quiet_tail {id : Nat} {R : Exit → Act → World → Prop} {a : Act} {w : World} {l : List Oper} (n : Nat) (hm : P.follows .mixedOrders = true) (hB : Region.lexTailB .any l.toArray n = true)
    (hC : C { w with drawn := w.drawn + 1 }) (h : wpQuiet P l.toArray C (fun a' => ∀ w', C w' → wpList P l.toArray R (l.drop n) a' w') (l.take n) a) : (Code.region id l.toArray true).wp P R a w := by
  simp only [Region.lexTailB, Bool.and_eq_true, decide_eq_true_eq] at hB
  have hn : n < l.length := by simpa using hB.1.1.1.2
  have htl : (l.take n).length = n := by simp; omega
  have hdl : (l.drop n).length = l.toArray.size - n := by simp
  have inv0 : HeadInv .any l.toArray n (Array.replicate l.toArray.size false) :=
    ⟨by simp, fun j oj _ hl => (by rw [getD_replicate_false] at hl; cases hl), fun t _ ht => getD_in (by simpa using ht) (getD_replicate_false _ _)⟩
  have H := headQ_lex (md := .any) (C := C) (g := l.toArray.size - n) hB.1.1.1.1 hB.1.1.2 hB.1.2 hB.1.1.1.2 (l.take n) 0 _ a (fun j hj => by rw [htl] at hj; simp [hj]) (by simpa using htl) inv0 (by rw [htl]; exact hB.2) h
  refine wp_region_any hm ?_
  have := any_of_headQ (C := C) (R := R) (g := l.toArray.size - n) (fun ls a' w' hw' hL => by
    have h1 := wpAny_of_seq (md := .any) (Q' := R) (l.drop n) n ls a' w' (fun j => by simp [List.getElem?_drop]) (by rw [hdl]; exact hL.1) (hL.2 w' hw')
    rwa [hdl] at h1) _ _ _ _ hC H
  have hsz : n + (l.toArray.size - n) = l.toArray.size := by
    have : l.toArray.size = l.length := by simp
    omega
  rwa [htl, hsz] at this
end
/-- The head may lay new memory; behind it the world is one that w grew to. -/
theorem wp_region_q_tail {P : Program} {id : Nat} {R : Exit → Act → World → Prop} {a : Act} {w : World} {l : List Oper} (n : Nat) (hm : P.follows .mixedOrders = true) (hB : Region.lexTailB .any l.toArray n = true)
    (h : wpQuiet P l.toArray (fun w' => ∃ m : QW w, w' = m.val) (fun a' => ∀ w', (∃ m : QW w, w' = m.val) → wpList P l.toArray R (l.drop n) a' w') (l.take n) a) : (Code.region id l.toArray true).wp P R a w :=
  wp_region_quiet_tail (C := fun w' => ∃ m : QW w, w' = m.val) n hm hB ⟨⟨w.drew, (Q.refl w).drew⟩, rfl⟩ h
end Go.Proofs.YtjbdjkpbkjkdpaaDoor
