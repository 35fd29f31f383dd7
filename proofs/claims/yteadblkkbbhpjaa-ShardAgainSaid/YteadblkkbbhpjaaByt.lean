/- A slice of bytes of the call's own: what it holds; append, reads, stores, to and from texts. -/
import Derived.Test.YteadblkkbbhpjaaShG
import Derived.Laws.IdiomStrings
import Derived.Maps.AppendAt
import Derived.Lib.BufferRead
set_option linter.unusedVariables false
namespace Go.Proofs.Yteadblkkbbhpjaa
open Go Go.RowKit

/-- v is a slice made since w0 that holds these bytes, all of them writable. -/
def OwnB (w0 w : World) (v : Value) (b : List UInt8) : Prop :=
  (v = .slice none 0 0 ∧ b = []) ∨
  ∃ g cap cur fz, v = .slice (some ⟨g, 0, none⟩) b.length cap ∧ w0.heap.size ≤ g ∧ w.heap[g]? = some (.cells cur 5 fz) ∧ (fz.2 = 0 ∨ cur.size ≤ fz.1) ∧ b.length ≤ cap ∧ cap ≤ maxLen ∧ cur.size = cap ∧ cur.toList.take b.length = b.map u8V
theorem OwnB.nil (w0 w : World) : OwnB w0 w (.slice none 0 0) [] := .inl ⟨rfl, rfl⟩
theorem OwnB.g {w0 w w' : World} {v : Value} {b : List UInt8} {row : Option Nat} (h : OwnB w0 w v b) (hg : w.grownBy w' row) (hr : ∀ k, v.ownBlock = some k → row ≠ some k) : OwnB w0 w' v b := by
  rcases h with h | ⟨g, cap, cur, fz, hv, h1, h2, h3⟩
  · exact .inl h
  · refine .inr ⟨g, cap, cur, fz, hv, h1, ?_, h3⟩
    rw [hg.block g (lt_of_heap h2) (by intro e; exact hr g (by rw [hv]; rfl) e.symm)]
    exact h2
theorem OwnB.q {w0 w w' : World} {v : Value} {b : List UInt8} (h : OwnB w0 w v b) (hq : Q w w') : OwnB w0 w' v b := h.g (hq.gb none) (by simp)
theorem OwnB.base {w0 w1 w : World} {v : Value} {b : List UInt8} (h : OwnB w1 w v b) (hq : w0.heap.size ≤ w1.heap.size) : OwnB w0 w v b := by
  rcases h with h | ⟨g, cap, cur, fz, hv, h1, h2⟩
  · exact .inl h
  · exact .inr ⟨g, cap, cur, fz, hv, by omega, h2⟩
theorem OwnB.block {w0 w : World} {v : Value} {b : List UInt8} (h : OwnB w0 w v b) {k : Nat} (hk : v.ownBlock = some k) : w0.heap.size ≤ k := by
  rcases h with ⟨rfl, _⟩ | ⟨g, cap, cur, fz, rfl, h1, _⟩
  · cases hk
  · simp [Value.ownBlock] at hk; omega
theorem OwnB.of_row {w0 w : World} {v : Value} {b : List UInt8} (h : w.ownsRow w0.heap.size 5 1 v b.length (b.map u8V)) : OwnB w0 w v b := by
  rcases h.2 with ⟨rfl, h0⟩ | ⟨g, cap, cur, rfl, hb, hh, hn, hm, hcs, ht⟩
  · exact .inl ⟨rfl, List.eq_nil_of_length_eq_zero h0⟩
  · exact .inr ⟨g, cap, cur, (0, 0), rfl, hb, hh, .inl rfl, hn, hm, by omega, by rw [Nat.mul_one] at ht; exact ht⟩
theorem info_u8 : (Try.prog.info? 5).map (fun i => (i.zero, i.size, i.bytes)) = some (some (.int .u8 0), 1, 1) := by kernel_rfl
theorem heap_setCell_any (w : World) (g i : Nat) (cs : Array Value) (t : TypeId) (fz : Nat × Nat) (v : Value) (hg : w.heap[g]? = some (.cells cs t fz)) :
    (w.setCell ⟨g, i, none⟩ v).heap[g]? = some (.cells (cs.setIfInBounds i v) t fz) := by
  simp [World.setCell, Array.getElem?_modify, hg]
theorem heap_setCells (g : Nat) (t : TypeId) (fz : Nat × Nat) (vs : List Value) : ∀ (o : Nat) (w : World) (cur : Array Value), w.heap[g]? = some (.cells cur t fz) → o + vs.length ≤ cur.size →
    (w.setCells g o vs).heap[g]? = some (.cells (cur.toList.take o ++ vs ++ cur.toList.drop (o + vs.length)).toArray t fz) := by
  induction vs with
  | nil => intro o w cur h _; simpa [World.setCells] using h
  | cons v r ih =>
    intro o w cur h ho
    simp only [List.length_cons] at ho
    rw [World.setCells, ih (o + 1) _ _ (heap_setCell_any w g o cur t fz v h) (by simp; omega)]
    congr 2
    rw [← Array.toList_inj]
    simp only [Array.toList_setIfInBounds]
    have ho' : o < cur.toList.length := by simp; omega
    rw [List.set_eq_take_append_cons_drop, if_pos ho']
    rw [List.take_append, List.drop_append, List.length_take, Nat.min_eq_left (by omega)]
    simp only [show o + 1 - o = 1 from by omega, List.take_succ_cons, List.take_zero, show o + 1 + r.length - o = r.length + 1 from by omega, List.drop_succ_cons, List.drop_drop, List.length_cons]
    rw [List.take_take, Nat.min_eq_right (by omega), List.drop_of_length_le (l := List.take o cur.toList) (by simp; omega)]
    simp [Nat.add_comm, Nat.add_left_comm]
theorem setCells_gb (g : Nat) (vs : List Value) : ∀ (o : Nat) (w : World), w.grownBy (w.setCells g o vs) (some g) := by
  induction vs with
  | nil => intro o w; exact ⟨rfl, rfl, rfl, Nat.le_refl _, fun _ _ _ => rfl⟩
  | cons v r ih => intro o w; exact gb_trans (gb_set ⟨rfl, rfl, rfl, Nat.le_refl _, fun _ _ _ => rfl⟩ o v) (ih (o + 1) _)
theorem frozen_any {w : World} {g i : Nat} {cur : Array Value} {t : TypeId} {fz : Nat × Nat} (h : w.heap[g]? = some (.cells cur t fz)) (hf : fz.2 = 0 ∨ cur.size ≤ fz.1) (hi : i < cur.size) : w.frozen? ⟨g, i, none⟩ = false := by
  unfold World.frozen?
  rw [h]
  simp only [Bool.and_eq_false_iff, decide_eq_false_iff_not]
  omega
theorem next_le {need old : Nat} (h : old < need) : Builtin.nextslicecap need old ≤ need + need / 4 + 512 := by
  unfold Builtin.nextslicecap
  split
  · omega
  · split
    · omega
    · rw [growBy_four]
      repeat' split
      all_goals omega
theorem next_fits {need old : Nat} (h : old < need) (hb : need ≤ 211106232532992) : Builtin.nextslicecap need old * 1 ≤ 281474976710656 := by
  have := next_le h
  omega
/-- append of bytes that lie somewhere. -/
theorem run_append_b (w0 w : World) (v : Value) (b : List UInt8) (ty : TypeId) (hown : OwnB w0 w v b) (ad : Addr) (m c : Nat) (news : List UInt8) (hm : news.length = m) (hnews : ∀ j (h : j < news.length), w.cell? (ad.add j) = some (u8V news[j]))
    (hb : b.length + m ≤ 211106232532992 ∧ m ≤ 140737488355328) (hw : w0.heap.size ≤ w.heap.size) :
    ∃ v' w', (Builtin.append_ #[35, 35] ty #[v, .slice (some ad) m c]).run Try.prog w = .ok v' w' ∧ OwnB w0 w' v' (b ++ news) ∧ w.grownBy w' v.ownBlock ∧ (v'.ownBlock = v.ownBlock ∨ v'.ownBlock = some w.heap.size) := by
  obtain ⟨i, hi, hz, hsz, hby⟩ := info_parts info_u8
  have hn2 : ∀ j u, (news.map u8V)[j]? = some u → w.cell? (ad.add j) = some u := by
    intro j u hu
    have hj : j < news.length := by have := (List.getElem?_eq_some_iff.1 hu).1; simpa using this
    rw [hnews j hj]
    rw [List.getElem?_map, List.getElem?_eq_getElem hj] at hu
    exact hu
  have h1 : ∀ u ∈ news.map u8V, u.oneCell' = true := by
    intro u hu
    obtain ⟨x, _, rfl⟩ := List.mem_map.1 hu
    rfl
  rcases hown with ⟨rfl, rfl⟩ | ⟨g, cap, cur, fz, rfl, hbg, hg, hfz, hnc, hcm, hcs, htake⟩
  · obtain ⟨v', w', r1, r2, r3, _, r5⟩ := run_append_own_at (P := Try.prog) w w.heap.size 35 ty 5 i (.int .u8 0) 1 1 Try.underlying35 hi hz hsz hby rfl (by decide) (.slice none 0 0) 0 [] (World.ownsRow_nil _ _ _ _) ad m c (news.map u8V) (by simp [hm]) hn2 h1 (by unfold maxLen; simp only [List.length_nil] at hb; omega) (by simp only [List.length_nil] at hb; omega) (Nat.le_refl _)
    have r2' : w'.ownsRow w.heap.size 5 1 v' news.length (news.map u8V) := by rw [hm]; simpa using r2
    exact ⟨v', w', r1, (OwnB.of_row r2').base hw, r3, r5⟩
  · by_cases hroom : b.length + m ≤ cap
    · have hf := run_firstCells_some (P := Try.prog) w i.size m ad m c (news.map u8V) (by simp [hm, hsz]) hn2
      have hcur : ∀ j, j < cur.size → (w.cell? ⟨g, j, none⟩).isSome = true := fun j hj => by rw [cell_of_row w g j cur _ fz hg, Array.getElem?_eq_getElem hj]; rfl
      have hst := run_storeCells_cells (P := Try.prog) g b.length (news.map u8V) 0 w (fun j hj => by simp at hj; simpa using hcur (b.length + j) (by omega)) (fun j hj => by simp at hj; simpa using frozen_any hg hfz (i := b.length + j) (by omega)) h1
      have hrun : (Builtin.append_ #[35, 35] ty #[.slice (some ⟨g, 0, none⟩) b.length cap, .slice (some ad) m c]).run Try.prog w = .ok (.slice (some ⟨g, 0, none⟩) (b.length + m) cap) (w.setCells g b.length (news.map u8V)) := by
        simp only [Nat.add_zero] at hst
        rw [hsz] at hf
        simp [Builtin.append_, run_underlying Try.underlying35, sizeOf, typeInfo, hi, Builtin.lenOf, hroom, hf, Addr.add_lit, hsz] at hst ⊢
        rw [hst]
        rfl
      have hh := heap_setCells g 5 fz (news.map u8V) b.length w cur hg (by simp; omega)
      have hcl : b.length ≤ cur.toList.length := by simp; omega
      refine ⟨_, _, hrun, .inr ⟨g, cap, _, fz, by simp [hm], hbg, hh, ?_, by simp [hm]; omega, hcm, ?_, ?_⟩, setCells_gb g _ _ _, .inl rfl⟩
      · rcases hfz with h | h
        · exact .inl h
        · right; simp; omega
      · simp; omega
      · have hl : (b ++ news).length = (b.map u8V ++ news.map u8V).length := by simp
        rw [hl, htake, List.take_left', List.map_append]
        rfl
    · have holds : ∀ j u, (b.map u8V)[j]? = some u → w.cell? ((⟨g, 0, none⟩ : Addr).add j) = some u := by
        intro j u hu
        have hj : j < b.length := by have := (List.getElem?_eq_some_iff.1 hu).1; simpa using this
        rw [add_off, Nat.zero_add, cell_of_row w g j cur _ fz hg]
        rw [← htake, List.getElem?_take, if_pos hj] at hu
        simpa using hu
      have hr := run_append_grow (P := Try.prog) w 35 ty 5 i (.int .u8 0) Try.underlying35 hi hz ⟨g, 0, none⟩ b.length cap (b.map u8V) (by simp [hsz]) holds ad m c (news.map u8V) (by simp [hm, hsz]) hn2 (by omega) (by omega) (by rw [hby]; exact next_fits (by omega) hb.1)
      have hge := grownCap_ge w (b.length + m) cap 5
      have hcm2 : grownCap w (b.length + m) cap 5 ≤ maxLen := grownCap_le_maxLen w (b.length + m) cap 5 (by unfold maxLen; omega)
      refine ⟨_, _, hr, .inr ⟨w.heap.size, _, _, (0, 0), by simp [hm], hw, heap_alloc_new w.drew _, .inl rfl, by simp [hm]; omega, hcm2, ?_, ?_⟩, ⟨rfl, rfl, rfl, by simp, fun k hk _ => Below.heap_alloc w.drew _ k hk⟩, .inr rfl⟩
      · simp only [Array.size_append, List.size_toArray, size_zeroCells, List.length_map, hm]
        rw [show (Value.int IntKind.u8 0).cells.size = 1 from rfl]
        omega
      · have hl : (b ++ news).length = (b.map u8V ++ news.map u8V).length := by simp
        simp only [Array.toList_append, List.append_assoc]
        rw [← List.append_assoc, hl, List.take_left', List.map_append]
        rfl
/-- append of bytes that have just been laid, where there is room. -/
theorem run_append_room_b (w0 W : World) (g cap : Nat) (b : List UInt8) (ty : TypeId) (hown : OwnB w0 W (.slice (some ⟨g, 0, none⟩) b.length cap) b) (hg0 : g < W.heap.size) (news : List UInt8) (n : Nat) (hn : news.length = n) (hroom : b.length + n ≤ cap) :
    ∃ w', (Builtin.append_ #[35, 35] ty #[.slice (some ⟨g, 0, none⟩) b.length cap, .slice (some ⟨W.heap.size, 0, none⟩) n n]).run Try.prog (W.alloc (.cells (arrB news) 5)) = .ok (.slice (some ⟨g, 0, none⟩) (b.length + n) cap) w' ∧
      OwnB w0 w' (.slice (some ⟨g, 0, none⟩) (b.length + n) cap) (b ++ news) ∧ (W.alloc (.cells (arrB news) 5)).grownBy w' (some g) := by
  obtain ⟨i, hi, hz, hsz, hby⟩ := info_parts info_u8
  have hA : OwnB w0 (W.alloc (.cells (arrB news) 5)) (.slice (some ⟨g, 0, none⟩) b.length cap) b := hown.q ((Q.refl W).alloc _)
  have hn2 : ∀ j u, (news.map u8V)[j]? = some u → (W.alloc (.cells (arrB news) 5)).cell? ((⟨W.heap.size, 0, none⟩ : Addr).add j) = some u := by
    intro j u hu
    rw [add_off, Nat.zero_add, cell_of_row _ _ _ _ _ _ (heap_alloc_new W _)]
    simpa [arrB] using hu
  have h1 : ∀ u ∈ news.map u8V, u.oneCell' = true := by
    intro u hu
    obtain ⟨x, _, rfl⟩ := List.mem_map.1 hu
    rfl
  rcases hA with ⟨h, _⟩ | ⟨g', cap', cur, fz, hv, hbg, hg, hfz, hnc, hcm, hcs, htake⟩
  · cases h
  · cases hv
    have hf := run_firstCells_some (P := Try.prog) (W.alloc (.cells (arrB news) 5)) i.size n ⟨W.heap.size, 0, none⟩ n n (news.map u8V) (by simp [hn, hsz]) hn2
    have hcur : ∀ j, j < cur.size → ((W.alloc (.cells (arrB news) 5)).cell? ⟨g, j, none⟩).isSome = true := fun j hj => by rw [cell_of_row _ g j cur _ fz hg, Array.getElem?_eq_getElem hj]; rfl
    have hst := run_storeCells_cells (P := Try.prog) g b.length (news.map u8V) 0 (W.alloc (.cells (arrB news) 5)) (fun j hj => by simp at hj; simpa using hcur (b.length + j) (by omega)) (fun j hj => by simp at hj; simpa using frozen_any hg hfz (i := b.length + j) (by omega)) h1
    have hrun : (Builtin.append_ #[35, 35] ty #[.slice (some ⟨g, 0, none⟩) b.length cap, .slice (some ⟨W.heap.size, 0, none⟩) n n]).run Try.prog (W.alloc (.cells (arrB news) 5)) = .ok (.slice (some ⟨g, 0, none⟩) (b.length + n) cap) ((W.alloc (.cells (arrB news) 5)).setCells g b.length (news.map u8V)) := by
      simp only [Nat.add_zero] at hst
      rw [hsz] at hf
      simp [Builtin.append_, run_underlying Try.underlying35, sizeOf, typeInfo, hi, Builtin.lenOf, hroom, hf, Addr.add_lit, hsz] at hst ⊢
      rw [hst]
      rfl
    have hh := heap_setCells g 5 fz (news.map u8V) b.length _ cur hg (by simp; omega)
    have hcl : b.length ≤ cur.toList.length := by simp; omega
    refine ⟨_, hrun, .inr ⟨g, cap, _, fz, by simp [hn], hbg, hh, ?_, by simp [hn]; omega, hcm, ?_, ?_⟩, setCells_gb g _ _ _⟩
    · rcases hfz with h | h
      · exact .inl h
      · right; simp; omega
    · simp; omega
    · have hl : (b ++ news).length = (b.map u8V ++ news.map u8V).length := by simp
      rw [hl, htake, List.take_left', List.map_append]
      rfl
theorem step_append_room_b {ops : Array Oper} {o : Oper} {a : Act} {K : Act → World → Prop} {R : Exit → Act → World → Prop} {E : Prop} (hgd : o.guard = none) (s x : Operand)
    (ho : o.op = .call { callee := .builtin .append, args := #[s, x], argTypes := #[35, 35] })
    (w0 W : World) (g len cap : Nat) (b : List UInt8) (hlen : b.length = len) (hs : a.eval s = .slice (some ⟨g, 0, none⟩) len cap) (hown : OwnB w0 W (.slice (some ⟨g, 0, none⟩) len cap) b) (hg0 : g < W.heap.size) (news : List UInt8) (n : Nat) (hn : news.length = n) (hx : a.eval x = .slice (some ⟨W.heap.size, 0, none⟩) n n) (hroom : len + n ≤ cap)
    (h : ∀ w', OwnB w0 w' (.slice (some ⟨g, 0, none⟩) (len + n) cap) (b ++ news) → W.grownBy w' (some g) → K (a.put o.dst (.slice (some ⟨g, 0, none⟩) (len + n) cap)) w') :
    if Region.wanted o (yielded ops a.tmps) = true then Oper.wp Try.prog o a (W.alloc (.cells (arrB news) 5)) K R else E := by
  subst hlen
  have hw : Region.wanted o (yielded ops a.tmps) = true := by simp [Region.wanted, hgd]
  rw [if_pos hw]
  obtain ⟨w', hr, h2, h3⟩ := run_append_room_b w0 W g cap b o.type hown hg0 news n hn hroom
  unfold Oper.wp execOp
  simp only [ho, resolve, invoke, builtin, Sem.run_bind, Sem.run_pure, Result.andThen_ok, List.map_toArray, List.map_cons, List.map_nil, hs, hx, hr]
  exact h w' h2 (gb_trans (World.grownBy_alloc W _ _) h3)
theorem gb_q_own {w0 W w' : World} {v : Value} (hg : W.grownBy w' v.ownBlock) (hq : Q w0 W) (hv : ∀ k, v.ownBlock = some k → w0.heap.size ≤ k) : Q w0 w' :=
  Q.below hq ⟨hg.os, hg.tape, hg.output, by have := hg.size; have := hq.size; omega, fun k hk => hg.block k (Nat.lt_of_lt_of_le hk hq.size) (fun e => by have := hv k e.symm; omega)⟩
/-- append(b, x, ..): the new bytes have just been laid. -/
theorem wpList_append_b {ops : Array Oper} {rest : List Oper} {o : Oper} {a : Act} {R : Exit → Act → World → Prop} (hgd : o.guard = none) (s x : Operand)
    (ho : o.op = .call { callee := .builtin .append, args := #[s, x], argTypes := #[35, 35] })
    (w0 W : World) (v : Value) (b : List UInt8) (hs : a.eval s = v) (hown : OwnB w0 W v b) (hq : Q w0 W) (news : List UInt8) (n : Nat) (hn : news.length = n) (hx : a.eval x = .slice (some ⟨W.heap.size, 0, none⟩) n n) (hb : b.length + n ≤ 211106232532992 ∧ n ≤ 140737488355328)
    (h : ∀ v' w', OwnB w0 w' v' (b ++ news) → Q w0 w' → (W.grownBy w' v.ownBlock ∧ (v'.ownBlock = v.ownBlock ∨ v'.ownBlock = some (W.heap.size + 1))) → wpList Try.prog ops R rest (a.put o.dst v') w') : wpList Try.prog ops R (o :: rest) a (W.alloc (.cells (arrB news) 5)) := by
  have hq1 := hq.alloc (.cells (arrB news) 5)
  have hA : ∀ k, v.ownBlock = some k → w0.heap.size ≤ k := fun k hk => hown.block hk
  have hown1 : OwnB w0 (W.alloc (.cells (arrB news) 5)) v b := hown.q ((Q.refl W).alloc _)
  obtain ⟨v', w', hr, h2, h3, h4⟩ := run_append_b w0 _ v b o.type hown1 ⟨W.heap.size, 0, none⟩ n n news hn (fun j hj => by
    rw [add_off, Nat.zero_add, cell_of_row _ _ _ _ _ _ (heap_alloc_new W _)]
    simp [arrB, hj]) hb hq1.size
  refine wpList_plain hgd fun K hK => ?_
  unfold Oper.wp execOp
  simp only [ho, resolve, invoke, builtin, Sem.run_bind, Sem.run_pure, Result.andThen_ok, List.map_toArray, List.map_cons, List.map_nil, hs, hx, hr]
  exact hK _ _ (h v' w' h2 (gb_q_own h3 hq1 hA) ⟨gb_trans (World.grownBy_alloc W _ _) h3, by simpa using h4⟩)
/-- append(b, x...): bytes that lie somewhere. -/
theorem wpList_append_from {ops : Array Oper} {rest : List Oper} {o : Oper} {a : Act} {R : Exit → Act → World → Prop} (hgd : o.guard = none) (s x : Operand)
    (ho : o.op = .call { callee := .builtin .append, args := #[s, x], argTypes := #[35, 35] })
    (w0 W : World) (v : Value) (b : List UInt8) (hs : a.eval s = v) (hown : OwnB w0 W v b) (hq : Q w0 W) (ad : Addr) (news : List UInt8) (n c : Nat) (hn : news.length = n) (hx : a.eval x = .slice (some ad) n c)
    (hc : ∀ j (h : j < news.length), W.cell? (ad.add j) = some (u8V news[j])) (hb : b.length + n ≤ 211106232532992 ∧ n ≤ 140737488355328)
    (h : ∀ v' w', OwnB w0 w' v' (b ++ news) → Q w0 w' → (W.grownBy w' v.ownBlock ∧ (v'.ownBlock = v.ownBlock ∨ v'.ownBlock = some W.heap.size)) → wpList Try.prog ops R rest (a.put o.dst v') w') : wpList Try.prog ops R (o :: rest) a W := by
  have hA : ∀ k, v.ownBlock = some k → w0.heap.size ≤ k := fun k hk => hown.block hk
  obtain ⟨v', w', hr, h2, h3, h4⟩ := run_append_b w0 _ v b o.type hown ad n c news hn hc hb hq.size
  refine wpList_plain hgd fun K hK => ?_
  unfold Oper.wp execOp
  simp only [ho, resolve, invoke, builtin, Sem.run_bind, Sem.run_pure, Result.andThen_ok, List.map_toArray, List.map_cons, List.map_nil, hs, hx, hr]
  exact hK _ _ (h v' w' h2 (gb_q_own h3 hq hA) ⟨h3, h4⟩)
/-- The same as a step of a region that draws its order. -/
theorem step_append_b {ops : Array Oper} {o : Oper} {a : Act} {K : Act → World → Prop} {R : Exit → Act → World → Prop} {E : Prop} (hgd : o.guard = none) (s x : Operand)
    (ho : o.op = .call { callee := .builtin .append, args := #[s, x], argTypes := #[35, 35] })
    (w0 W : World) (v : Value) (b : List UInt8) (hs : a.eval s = v) (hown : OwnB w0 W v b) (hq : Q w0 W) (news : List UInt8) (n : Nat) (hn : news.length = n) (hx : a.eval x = .slice (some ⟨W.heap.size, 0, none⟩) n n) (hb : b.length + n ≤ 211106232532992 ∧ n ≤ 140737488355328)
    (h : ∀ v' w', OwnB w0 w' v' (b ++ news) → Q w0 w' → (W.grownBy w' v.ownBlock ∧ (v'.ownBlock = v.ownBlock ∨ v'.ownBlock = some (W.heap.size + 1))) → K (a.put o.dst v') w') :
    if Region.wanted o (yielded ops a.tmps) = true then Oper.wp Try.prog o a (W.alloc (.cells (arrB news) 5)) K R else E := by
  have hw : Region.wanted o (yielded ops a.tmps) = true := by simp [Region.wanted, hgd]
  rw [if_pos hw]
  have hq1 := hq.alloc (.cells (arrB news) 5)
  have hA : ∀ k, v.ownBlock = some k → w0.heap.size ≤ k := fun k hk => hown.block hk
  have hown1 : OwnB w0 (W.alloc (.cells (arrB news) 5)) v b := hown.q ((Q.refl W).alloc _)
  obtain ⟨v', w', hr, h2, h3, h4⟩ := run_append_b w0 _ v b o.type hown1 ⟨W.heap.size, 0, none⟩ n n news hn (fun j hj => by
    rw [add_off, Nat.zero_add, cell_of_row _ _ _ _ _ _ (heap_alloc_new W _)]
    simp [arrB, hj]) hb hq1.size
  unfold Oper.wp execOp
  simp only [ho, resolve, invoke, builtin, Sem.run_bind, Sem.run_pure, Result.andThen_ok, List.map_toArray, List.map_cons, List.map_nil, hs, hx, hr]
  exact h v' w' h2 (gb_q_own h3 hq1 hA) ⟨gb_trans (World.grownBy_alloc W _ _) h3, by simpa using h4⟩
/-- string(b). -/
theorem conv_b {w0 w : World} {v : Value} {b : List UInt8} (h : OwnB w0 w v b) : (convert 35 9 v).run Try.prog w = .ok (.string ⟨b.toArray⟩) w := by
  rcases h with ⟨rfl, rfl⟩ | ⟨g, cap, cur, fz, rfl, hbg, hg, hfz, hnc, hcm, hcs, htake⟩
  · have := Lib.run_convert_nil_bytes (P := Try.prog) w 35 9 5 0 Try.underlying35 Try.underlying5 Try.underlying9
    rw [this]
  · refine run_convert_bytes_back (P := Try.prog) w 35 9 5 ⟨g, 0, none⟩ cap b Try.underlying35 Try.underlying5 Try.underlying9 ?_
    intro i hi
    rw [add_off, Nat.zero_add, cell_of_row w g i cur _ fz hg]
    have e : cur[i]? = (b.map u8V)[i]? := by rw [← htake, List.getElem?_take, if_pos hi, Array.getElem?_toList]
    rw [e]
    simp [u8V, hi]
/-- []byte(s). -/
theorem bytes_of (l : List UInt8) (w : World) (hl : l.length ≤ 9223372036854775807) : ∃ v w', (convert 9 35 (.string ⟨l.toArray⟩)).run Try.prog w = .ok v w' ∧ OwnB w w' v l ∧ Q w w' ∧ ∃ cap, v = .slice (some ⟨w.heap.size, 0, none⟩) l.length cap := by
  have hr := run_bytes_of_string (P := Try.prog) w 9 35 5 ⟨l.toArray⟩ Try.underlying9 Try.underlying35 Try.underlying5
  have hsz : (ByteArray.mk l.toArray).size = l.length := rfl
  have hge := grownCap_ge w l.length 0 5
  have hcm2 := grownCap_le_maxLen w l.length 0 5 (by unfold maxLen; omega)
  rw [hsz] at hr
  refine ⟨_, _, hr, .inr ⟨w.heap.size, _, _, _, rfl, Nat.le_refl _, heap_alloc_new w.drew _, .inr (Nat.le_refl _), hge, hcm2, ?_, ?_⟩, (Q.refl w).drew.alloc _, _, rfl⟩
  · simp [bytesRow, hsz]; omega
  · simp [bytesRow, u8V]
theorem OwnB.form {w0 w : World} {v : Value} {b : List UInt8} (h : OwnB w0 w v b) : ∃ A cap, v = .slice A b.length cap ∧ b.length ≤ cap ∧ cap ≤ maxLen ∧ (A = none → b = []) ∧ ∀ ad, A = some ad → w0.heap.size ≤ ad.block ∧ ad = ⟨ad.block, 0, none⟩ ∧
    (∀ i, i < b.length → w.cell? ⟨ad.block, i, none⟩ = some (.int .u8 ((gB b i).toNat : Int)) ∧ w.frozen? ⟨ad.block, i, none⟩ = false) := by
  rcases h with ⟨rfl, rfl⟩ | ⟨g, cap, cur, fz, rfl, hbg, hg, hfz, hnc, hcm, hcs, htake⟩
  · exact ⟨none, 0, rfl, Nat.le_refl _, by unfold maxLen; omega, fun _ => rfl, fun ad h => by cases h⟩
  · refine ⟨_, cap, rfl, hnc, hcm, fun h => (by cases h), fun ad h => ?_⟩
    cases h
    refine ⟨hbg, rfl, fun i hi => ⟨?_, frozen_any hg hfz (by omega)⟩⟩
    show w.cell? ⟨g, i, none⟩ = _
    rw [cell_of_row w g i cur _ fz hg]
    have e : cur[i]? = (b.map u8V)[i]? := by rw [← htake, List.getElem?_take, if_pos hi, Array.getElem?_toList]
    rw [e]
    simp [u8V, gB, List.getD, hi]
/-- Such a slice of at least one byte. -/
theorem OwnB.pos {w0 w : World} {v : Value} {b : List UInt8} (h : OwnB w0 w v b) (hb : 0 < b.length) : ∃ g cap, v = .slice (some ⟨g, 0, none⟩) b.length cap ∧ w0.heap.size ≤ g ∧ b.length ≤ cap ∧ cap ≤ maxLen ∧
    ∀ i, i < b.length → w.cell? ⟨g, i, none⟩ = some (.int .u8 ((gB b i).toNat : Int)) ∧ w.frozen? ⟨g, i, none⟩ = false := by
  obtain ⟨A, cap, hv, h1, h2, h3, h4⟩ := h.form
  cases A with
  | none => rw [h3 rfl] at hb; cases hb
  | some ad =>
    obtain ⟨h5, h6, h7⟩ := h4 ad rfl
    exact ⟨ad.block, cap, by rw [hv, ← h6], h5, h1, h2, h7⟩
theorem OwnB.set {w0 w : World} {g n cap : Nat} {b : List UInt8} (h : OwnB w0 w (.slice (some ⟨g, 0, none⟩) n cap) b) (i : Nat) (x : UInt8) : OwnB w0 (w.setCell ⟨g, i, none⟩ (.int .u8 (x.toNat : Int))) (.slice (some ⟨g, 0, none⟩) n cap) (b.set i x) := by
  rcases h with ⟨h, _⟩ | ⟨g', cap', cur, fz, hv, hbg, hg, hfz, hnc, hcm, hcs, htake⟩
  · cases h
  · cases hv
    refine .inr ⟨g, cap, _, fz, by simp, hbg, heap_setCell_any w g i cur _ fz _ hg, ?_, by simpa using hnc, hcm, by simpa using hcs, ?_⟩
    · rcases hfz with h | h
      · exact .inl h
      · right; simpa using h
    · simp only [Array.toList_setIfInBounds, List.length_set]
      rw [List.take_set, htake, List.map_set]
      rfl
/-- make([]byte, 0, n). -/
theorem make_b (n : Nat) (w : World) (hn : n ≤ 281474976710656) : ∃ w', (Instr.makeSlice 35 (.int .i64 0) (.int .i64 (n : Int))).run Try.prog w = .ok (.slice (some ⟨w.heap.size, 0, none⟩) 0 n) w' ∧ OwnB w w' (.slice (some ⟨w.heap.size, 0, none⟩) 0 n) [] ∧ Q w w' := by
  obtain ⟨i, hi, hz, hsz, hby⟩ := info_parts info_u8
  have h := run_make (P := Try.prog) w 35 5 i _ Try.underlying35 hi hz .i64 .i64 0 (n : Int) (by omega) (by omega) (by rw [hby]; omega) (by omega)
  refine ⟨_, h, .inr ⟨w.heap.size, n, _, (0, 0), rfl, Nat.le_refl _, heap_alloc_new w _, .inl rfl, Nat.zero_le _, by unfold maxLen; omega, ?_, rfl⟩, (Q.refl w).alloc _⟩
  rw [size_madeCells, hsz]; simp
end Go.Proofs.Yteadblkkbbhpjaa
