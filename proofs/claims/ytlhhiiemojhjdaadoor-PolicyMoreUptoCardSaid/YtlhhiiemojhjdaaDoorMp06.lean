/- Texts of this proof, laid into one: Byt, KbF, KaJ, KbG, KbH. -/
import Derived.Test.YtlhhiiemojhjdaaDoorMp05
import Derived.Laws.IdiomStrings
import Derived.Maps.AppendAt
import Derived.Lib.BufferRead
import Derived.Lib.MapLaws
import Derived.Lib.Bytealg
import Derived.Lib.SlBytesConst
import Derived.Shelf.Strings.BuilderK
import Derived.Shelf.Strings.BuilderRune
/- A slice of bytes of the call's own: what it holds; append, reads, stores, to and from texts. -/
set_option linter.unusedVariables false
namespace Go.Proofs.YtlhhiiemojhjdaaDoor
open Go Go.RowKit

/-- v is a slice made since w0 that holds these bytes, all of them writable. -/
def OwnB (w0 w : World) (v : Value) (b : List UInt8) : Prop :=
  (v = .slice none 0 0 ∧ b = []) ∨
  ∃ g cap cur fz, v = .slice (some ⟨g, 0, none⟩) b.length cap ∧ w0.heap.size ≤ g ∧ w.heap[g]? = some (.cells cur 5 fz) ∧ (fz.2 = 0 ∨ cur.size ≤ fz.1) ∧ b.length ≤ cap ∧ cap ≤ maxLen ∧ cur.size = cap ∧ cur.toList.take b.length = b.map u8V
theorem OwnB.nil (w0 w : World) : OwnB w0 w (.slice none 0 0) [] := .inl ⟨rfl, rfl⟩
theorem OwnB.g {w0 w w' : World} {v : Value} {b : List UInt8} {row : Option Nat} (h : OwnB w0 w v b) (hg : w.grownBy w' row) (hr : ∀ k, v.ownBlock = some k → row ≠ some k) : OwnB w0 w' v b := by
  rcases h with h | ⟨g, cap, cur, fz, hv, h1, h2, h3⟩
  · exact .inl h
  · refine .inr ⟨g, cap, cur, fz, hv, h1, ?_, h3⟩
    rw [hg.block g (lt_of_heap h2) (by intro e; exact hr g (by rw [hv]; rfl) e.symm)]
    exact h2
theorem OwnB.q {w0 w w' : World} {v : Value} {b : List UInt8} (h : OwnB w0 w v b) (hq : Q w w') : OwnB w0 w' v b := h.g (hq.gb none) (by simp)
theorem OwnB.base {w0 w1 w : World} {v : Value} {b : List UInt8} (h : OwnB w1 w v b) (hq : w0.heap.size ≤ w1.heap.size) : OwnB w0 w v b := by
  rcases h with h | ⟨g, cap, cur, fz, hv, h1, h2⟩
  · exact .inl h
  · exact .inr ⟨g, cap, cur, fz, hv, by omega, h2⟩
theorem OwnB.block {w0 w : World} {v : Value} {b : List UInt8} (h : OwnB w0 w v b) {k : Nat} (hk : v.ownBlock = some k) : w0.heap.size ≤ k := by
  rcases h with ⟨rfl, _⟩ | ⟨g, cap, cur, fz, rfl, h1, _⟩
  · cases hk
  · simp [Value.ownBlock] at hk; omega
theorem OwnB.of_row {w0 w : World} {v : Value} {b : List UInt8} (h : w.ownsRow w0.heap.size 5 1 v b.length (b.map u8V)) : OwnB w0 w v b := by
  rcases h.2 with ⟨rfl, h0⟩ | ⟨g, cap, cur, rfl, hb, hh, hn, hm, hcs, ht⟩
  · exact .inl ⟨rfl, List.eq_nil_of_length_eq_zero h0⟩
  · exact .inr ⟨g, cap, cur, (0, 0), rfl, hb, hh, .inl rfl, hn, hm, by omega, by rw [Nat.mul_one] at ht; exact ht⟩
theorem info_u8 : (Tryd.prog.info? 5).map (fun i => (i.zero, i.size, i.bytes)) = some (some (.int .u8 0), 1, 1) := by kernel_rfl
theorem heap_setCell_any (w : World) (g i : Nat) (cs : Array Value) (t : TypeId) (fz : Nat × Nat) (v : Value) (hg : w.heap[g]? = some (.cells cs t fz)) :
    (w.setCell ⟨g, i, none⟩ v).heap[g]? = some (.cells (cs.setIfInBounds i v) t fz) := by
  simp [World.setCell, Array.getElem?_modify, hg]
theorem heap_setCells (g : Nat) (t : TypeId) (fz : Nat × Nat) (vs : List Value) : ∀ (o : Nat) (w : World) (cur : Array Value), w.heap[g]? = some (.cells cur t fz) → o + vs.length ≤ cur.size →
    (w.setCells g o vs).heap[g]? = some (.cells (cur.toList.take o ++ vs ++ cur.toList.drop (o + vs.length)).toArray t fz) := by
  induction vs with
  | nil => intro o w cur h _; simpa [World.setCells] using h
  | cons v r ih =>
    intro o w cur h ho
    simp only [List.length_cons] at ho
    rw [World.setCells, ih (o + 1) _ _ (heap_setCell_any w g o cur t fz v h) (by simp; omega)]
    congr 2
    rw [← Array.toList_inj]
    simp only [Array.toList_setIfInBounds]
    have ho' : o < cur.toList.length := by simp; omega
    rw [List.set_eq_take_append_cons_drop, if_pos ho']
    rw [List.take_append, List.drop_append, List.length_take, Nat.min_eq_left (by omega)]
    simp only [show o + 1 - o = 1 from by omega, List.take_succ_cons, List.take_zero, show o + 1 + r.length - o = r.length + 1 from by omega, List.drop_succ_cons, List.drop_drop, List.length_cons]
    rw [List.take_take, Nat.min_eq_right (by omega), List.drop_of_length_le (l := List.take o cur.toList) (by simp; omega)]
    simp [Nat.add_comm, Nat.add_left_comm]
theorem setCells_gb (g : Nat) (vs : List Value) : ∀ (o : Nat) (w : World), w.grownBy (w.setCells g o vs) (some g) := by
  induction vs with
  | nil => intro o w; exact ⟨rfl, rfl, rfl, Nat.le_refl _, fun _ _ _ => rfl⟩
  | cons v r ih => intro o w; exact gb_trans (gb_set ⟨rfl, rfl, rfl, Nat.le_refl _, fun _ _ _ => rfl⟩ o v) (ih (o + 1) _)
theorem frozen_any {w : World} {g i : Nat} {cur : Array Value} {t : TypeId} {fz : Nat × Nat} (h : w.heap[g]? = some (.cells cur t fz)) (hf : fz.2 = 0 ∨ cur.size ≤ fz.1) (hi : i < cur.size) : w.frozen? ⟨g, i, none⟩ = false := by
  unfold World.frozen?
  rw [h]
  simp only [Bool.and_eq_false_iff, decide_eq_false_iff_not]
  omega
theorem next_le {need old : Nat} (h : old < need) : Builtin.nextslicecap need old ≤ need + need / 4 + 512 := by
  unfold Builtin.nextslicecap
  split
  · omega
  · split
    · omega
    · rw [growBy_four]
      repeat' split
      all_goals omega
theorem next_fits {need old : Nat} (h : old < need) (hb : need ≤ 211106232532992) : Builtin.nextslicecap need old * 1 ≤ 281474976710656 := by
  have := next_le h
  omega
/-- append of bytes that lie somewhere. -/
theorem run_append_b (w0 w : World) (v : Value) (b : List UInt8) (ty : TypeId) (hown : OwnB w0 w v b) (ad : Addr) (m c : Nat) (news : List UInt8) (hm : news.length = m) (hnews : ∀ j (h : j < news.length), w.cell? (ad.add j) = some (u8V news[j]))
    (hb : b.length + m ≤ 211106232532992 ∧ m ≤ 140737488355328) (hw : w0.heap.size ≤ w.heap.size) :
    ∃ v' w', (Builtin.append_ #[68, 68] ty #[v, .slice (some ad) m c]).run Tryd.prog w = .ok v' w' ∧ OwnB w0 w' v' (b ++ news) ∧ w.grownBy w' v.ownBlock ∧ (v'.ownBlock = v.ownBlock ∨ v'.ownBlock = some w.heap.size) := by
  obtain ⟨i, hi, hz, hsz, hby⟩ := info_parts info_u8
  have hn2 : ∀ j u, (news.map u8V)[j]? = some u → w.cell? (ad.add j) = some u := by
    intro j u hu
    have hj : j < news.length := by have := (List.getElem?_eq_some_iff.1 hu).1; simpa using this
    rw [hnews j hj]
    rw [List.getElem?_map, List.getElem?_eq_getElem hj] at hu
    exact hu
  have h1 : ∀ u ∈ news.map u8V, u.oneCell' = true := by
    intro u hu
    obtain ⟨x, _, rfl⟩ := List.mem_map.1 hu
    rfl
  rcases hown with ⟨rfl, rfl⟩ | ⟨g, cap, cur, fz, rfl, hbg, hg, hfz, hnc, hcm, hcs, htake⟩
  · obtain ⟨v', w', r1, r2, r3, _, r5⟩ := run_append_own_at (P := Tryd.prog) w w.heap.size 68 ty 5 i (.int .u8 0) 1 1 Tryd.underlying68 hi hz hsz hby rfl (by decide) (.slice none 0 0) 0 [] (World.ownsRow_nil _ _ _ _) ad m c (news.map u8V) (by simp [hm]) hn2 h1 (by unfold maxLen; simp only [List.length_nil] at hb; omega) (by simp only [List.length_nil] at hb; omega) (Nat.le_refl _)
    have r2' : w'.ownsRow w.heap.size 5 1 v' news.length (news.map u8V) := by rw [hm]; simpa using r2
    exact ⟨v', w', r1, (OwnB.of_row r2').base hw, r3, r5⟩
  · by_cases hroom : b.length + m ≤ cap
    · have hf := run_firstCells_some (P := Tryd.prog) w i.size m ad m c (news.map u8V) (by simp [hm, hsz]) hn2
      have hcur : ∀ j, j < cur.size → (w.cell? ⟨g, j, none⟩).isSome = true := fun j hj => by rw [cell_of_row w g j cur _ fz hg, Array.getElem?_eq_getElem hj]; rfl
      have hst := run_storeCells_cells (P := Tryd.prog) g b.length (news.map u8V) 0 w (fun j hj => by simp at hj; simpa using hcur (b.length + j) (by omega)) (fun j hj => by simp at hj; simpa using frozen_any hg hfz (i := b.length + j) (by omega)) h1
      have hrun : (Builtin.append_ #[68, 68] ty #[.slice (some ⟨g, 0, none⟩) b.length cap, .slice (some ad) m c]).run Tryd.prog w = .ok (.slice (some ⟨g, 0, none⟩) (b.length + m) cap) (w.setCells g b.length (news.map u8V)) := by
        simp only [Nat.add_zero] at hst
        rw [hsz] at hf
        simp [Builtin.append_, run_underlying Tryd.underlying68, sizeOf, typeInfo, hi, Builtin.lenOf, hroom, hf, Addr.add_lit, hsz] at hst ⊢
        rw [hst]
        rfl
      have hh := heap_setCells g 5 fz (news.map u8V) b.length w cur hg (by simp; omega)
      have hcl : b.length ≤ cur.toList.length := by simp; omega
      refine ⟨_, _, hrun, .inr ⟨g, cap, _, fz, by simp [hm], hbg, hh, ?_, by simp [hm]; omega, hcm, ?_, ?_⟩, setCells_gb g _ _ _, .inl rfl⟩
      · rcases hfz with h | h
        · exact .inl h
        · right; simp; omega
      · simp; omega
      · have hl : (b ++ news).length = (b.map u8V ++ news.map u8V).length := by simp
        rw [hl, htake, List.take_left', List.map_append]
        rfl
    · have holds : ∀ j u, (b.map u8V)[j]? = some u → w.cell? ((⟨g, 0, none⟩ : Addr).add j) = some u := by
        intro j u hu
        have hj : j < b.length := by have := (List.getElem?_eq_some_iff.1 hu).1; simpa using this
        rw [add_off, Nat.zero_add, cell_of_row w g j cur _ fz hg]
        rw [← htake, List.getElem?_take, if_pos hj] at hu
        simpa using hu
      have hr := run_append_grow (P := Tryd.prog) w 68 ty 5 i (.int .u8 0) Tryd.underlying68 hi hz ⟨g, 0, none⟩ b.length cap (b.map u8V) (by simp [hsz]) holds ad m c (news.map u8V) (by simp [hm, hsz]) hn2 (by omega) (by omega) (by rw [hby]; exact next_fits (by omega) hb.1)
      have hge := grownCap_ge w (b.length + m) cap 5
      have hcm2 : grownCap w (b.length + m) cap 5 ≤ maxLen := grownCap_le_maxLen w (b.length + m) cap 5 (by unfold maxLen; omega)
      refine ⟨_, _, hr, .inr ⟨w.heap.size, _, _, (0, 0), by simp [hm], hw, heap_alloc_new w.drew _, .inl rfl, by simp [hm]; omega, hcm2, ?_, ?_⟩, ⟨rfl, rfl, rfl, by simp, fun k hk _ => Below.heap_alloc w.drew _ k hk⟩, .inr rfl⟩
      · simp only [Array.size_append, List.size_toArray, size_zeroCells, List.length_map, hm]
        rw [show (Value.int IntKind.u8 0).cells.size = 1 from rfl]
        omega
      · have hl : (b ++ news).length = (b.map u8V ++ news.map u8V).length := by simp
        simp only [Array.toList_append, List.append_assoc]
        rw [← List.append_assoc, hl, List.take_left', List.map_append]
        rfl
/-- append of bytes that have just been laid, where there is room. -/
theorem run_append_room_b (w0 W : World) (g cap : Nat) (b : List UInt8) (ty : TypeId) (hown : OwnB w0 W (.slice (some ⟨g, 0, none⟩) b.length cap) b) (hg0 : g < W.heap.size) (news : List UInt8) (n : Nat) (hn : news.length = n) (hroom : b.length + n ≤ cap) :
    ∃ w', (Builtin.append_ #[68, 68] ty #[.slice (some ⟨g, 0, none⟩) b.length cap, .slice (some ⟨W.heap.size, 0, none⟩) n n]).run Tryd.prog (W.alloc (.cells (arrB news) 5)) = .ok (.slice (some ⟨g, 0, none⟩) (b.length + n) cap) w' ∧
      OwnB w0 w' (.slice (some ⟨g, 0, none⟩) (b.length + n) cap) (b ++ news) ∧ (W.alloc (.cells (arrB news) 5)).grownBy w' (some g) := by
  obtain ⟨i, hi, hz, hsz, hby⟩ := info_parts info_u8
  have hA : OwnB w0 (W.alloc (.cells (arrB news) 5)) (.slice (some ⟨g, 0, none⟩) b.length cap) b := hown.q ((Q.refl W).alloc _)
  have hn2 : ∀ j u, (news.map u8V)[j]? = some u → (W.alloc (.cells (arrB news) 5)).cell? ((⟨W.heap.size, 0, none⟩ : Addr).add j) = some u := by
    intro j u hu
    rw [add_off, Nat.zero_add, cell_of_row _ _ _ _ _ _ (heap_alloc_new W _)]
    simpa [arrB] using hu
  have h1 : ∀ u ∈ news.map u8V, u.oneCell' = true := by
    intro u hu
    obtain ⟨x, _, rfl⟩ := List.mem_map.1 hu
    rfl
  rcases hA with ⟨h, _⟩ | ⟨g', cap', cur, fz, hv, hbg, hg, hfz, hnc, hcm, hcs, htake⟩
  · cases h
  · cases hv
    have hf := run_firstCells_some (P := Tryd.prog) (W.alloc (.cells (arrB news) 5)) i.size n ⟨W.heap.size, 0, none⟩ n n (news.map u8V) (by simp [hn, hsz]) hn2
    have hcur : ∀ j, j < cur.size → ((W.alloc (.cells (arrB news) 5)).cell? ⟨g, j, none⟩).isSome = true := fun j hj => by rw [cell_of_row _ g j cur _ fz hg, Array.getElem?_eq_getElem hj]; rfl
    have hst := run_storeCells_cells (P := Tryd.prog) g b.length (news.map u8V) 0 (W.alloc (.cells (arrB news) 5)) (fun j hj => by simp at hj; simpa using hcur (b.length + j) (by omega)) (fun j hj => by simp at hj; simpa using frozen_any hg hfz (i := b.length + j) (by omega)) h1
    have hrun : (Builtin.append_ #[68, 68] ty #[.slice (some ⟨g, 0, none⟩) b.length cap, .slice (some ⟨W.heap.size, 0, none⟩) n n]).run Tryd.prog (W.alloc (.cells (arrB news) 5)) = .ok (.slice (some ⟨g, 0, none⟩) (b.length + n) cap) ((W.alloc (.cells (arrB news) 5)).setCells g b.length (news.map u8V)) := by
      simp only [Nat.add_zero] at hst
      rw [hsz] at hf
      simp [Builtin.append_, run_underlying Tryd.underlying68, sizeOf, typeInfo, hi, Builtin.lenOf, hroom, hf, Addr.add_lit, hsz] at hst ⊢
      rw [hst]
      rfl
    have hh := heap_setCells g 5 fz (news.map u8V) b.length _ cur hg (by simp; omega)
    have hcl : b.length ≤ cur.toList.length := by simp; omega
    refine ⟨_, hrun, .inr ⟨g, cap, _, fz, by simp [hn], hbg, hh, ?_, by simp [hn]; omega, hcm, ?_, ?_⟩, setCells_gb g _ _ _⟩
    · rcases hfz with h | h
      · exact .inl h
      · right; simp; omega
    · simp; omega
    · have hl : (b ++ news).length = (b.map u8V ++ news.map u8V).length := by simp
      rw [hl, htake, List.take_left', List.map_append]
      rfl
theorem step_append_room_b {ops : Array Oper} {o : Oper} {a : Act} {K : Act → World → Prop} {R : Exit → Act → World → Prop} {E : Prop} (hgd : o.guard = none) (s x : Operand)
    (ho : o.op = .call { callee := .builtin .append, args := #[s, x], argTypes := #[68, 68] })
    (w0 W : World) (g len cap : Nat) (b : List UInt8) (hlen : b.length = len) (hs : a.eval s = .slice (some ⟨g, 0, none⟩) len cap) (hown : OwnB w0 W (.slice (some ⟨g, 0, none⟩) len cap) b) (hg0 : g < W.heap.size) (news : List UInt8) (n : Nat) (hn : news.length = n) (hx : a.eval x = .slice (some ⟨W.heap.size, 0, none⟩) n n) (hroom : len + n ≤ cap)
    (h : ∀ w', OwnB w0 w' (.slice (some ⟨g, 0, none⟩) (len + n) cap) (b ++ news) → W.grownBy w' (some g) → K (a.put o.dst (.slice (some ⟨g, 0, none⟩) (len + n) cap)) w') :
    if Region.wanted o (yielded ops a.tmps) = true then Oper.wp Tryd.prog o a (W.alloc (.cells (arrB news) 5)) K R else E := by
  subst hlen
  have hw : Region.wanted o (yielded ops a.tmps) = true := by simp [Region.wanted, hgd]
  rw [if_pos hw]
  obtain ⟨w', hr, h2, h3⟩ := run_append_room_b w0 W g cap b o.type hown hg0 news n hn hroom
  unfold Oper.wp execOp
  simp only [ho, resolve, invoke, builtin, Sem.run_bind, Sem.run_pure, Result.andThen_ok, List.map_toArray, List.map_cons, List.map_nil, hs, hx, hr]
  exact h w' h2 (gb_trans (World.grownBy_alloc W _ _) h3)
theorem gb_q_own {w0 W w' : World} {v : Value} (hg : W.grownBy w' v.ownBlock) (hq : Q w0 W) (hv : ∀ k, v.ownBlock = some k → w0.heap.size ≤ k) : Q w0 w' :=
  Q.below hq ⟨hg.os, hg.tape, hg.output, by have := hg.size; have := hq.size; omega, fun k hk => hg.block k (Nat.lt_of_lt_of_le hk hq.size) (fun e => by have := hv k e.symm; omega)⟩
/-- append(b, x, ..): the new bytes have just been laid. -/
theorem wpList_append_b {ops : Array Oper} {rest : List Oper} {o : Oper} {a : Act} {R : Exit → Act → World → Prop} (hgd : o.guard = none) (s x : Operand)
    (ho : o.op = .call { callee := .builtin .append, args := #[s, x], argTypes := #[68, 68] })
    (w0 W : World) (v : Value) (b : List UInt8) (hs : a.eval s = v) (hown : OwnB w0 W v b) (hq : Q w0 W) (news : List UInt8) (n : Nat) (hn : news.length = n) (hx : a.eval x = .slice (some ⟨W.heap.size, 0, none⟩) n n) (hb : b.length + n ≤ 211106232532992 ∧ n ≤ 140737488355328)
    (h : ∀ v' w', OwnB w0 w' v' (b ++ news) → Q w0 w' → (W.grownBy w' v.ownBlock ∧ (v'.ownBlock = v.ownBlock ∨ v'.ownBlock = some (W.heap.size + 1))) → wpList Tryd.prog ops R rest (a.put o.dst v') w') : wpList Tryd.prog ops R (o :: rest) a (W.alloc (.cells (arrB news) 5)) := by
  have hq1 := hq.alloc (.cells (arrB news) 5)
  have hA : ∀ k, v.ownBlock = some k → w0.heap.size ≤ k := fun k hk => hown.block hk
  have hown1 : OwnB w0 (W.alloc (.cells (arrB news) 5)) v b := hown.q ((Q.refl W).alloc _)
  obtain ⟨v', w', hr, h2, h3, h4⟩ := run_append_b w0 _ v b o.type hown1 ⟨W.heap.size, 0, none⟩ n n news hn (fun j hj => by
    rw [add_off, Nat.zero_add, cell_of_row _ _ _ _ _ _ (heap_alloc_new W _)]
    simp [arrB, hj]) hb hq1.size
  refine wpList_plain hgd fun K hK => ?_
  unfold Oper.wp execOp
  simp only [ho, resolve, invoke, builtin, Sem.run_bind, Sem.run_pure, Result.andThen_ok, List.map_toArray, List.map_cons, List.map_nil, hs, hx, hr]
  exact hK _ _ (h v' w' h2 (gb_q_own h3 hq1 hA) ⟨gb_trans (World.grownBy_alloc W _ _) h3, by simpa using h4⟩)
/-- append(b, x...): bytes that lie somewhere. -/
theorem wpList_append_from {ops : Array Oper} {rest : List Oper} {o : Oper} {a : Act} {R : Exit → Act → World → Prop} (hgd : o.guard = none) (s x : Operand)
    (ho : o.op = .call { callee := .builtin .append, args := #[s, x], argTypes := #[68, 68] })
    (w0 W : World) (v : Value) (b : List UInt8) (hs : a.eval s = v) (hown : OwnB w0 W v b) (hq : Q w0 W) (ad : Addr) (news : List UInt8) (n c : Nat) (hn : news.length = n) (hx : a.eval x = .slice (some ad) n c)
    (hc : ∀ j (h : j < news.length), W.cell? (ad.add j) = some (u8V news[j])) (hb : b.length + n ≤ 211106232532992 ∧ n ≤ 140737488355328)
    (h : ∀ v' w', OwnB w0 w' v' (b ++ news) → Q w0 w' → (W.grownBy w' v.ownBlock ∧ (v'.ownBlock = v.ownBlock ∨ v'.ownBlock = some W.heap.size)) → wpList Tryd.prog ops R rest (a.put o.dst v') w') : wpList Tryd.prog ops R (o :: rest) a W := by
  have hA : ∀ k, v.ownBlock = some k → w0.heap.size ≤ k := fun k hk => hown.block hk
  obtain ⟨v', w', hr, h2, h3, h4⟩ := run_append_b w0 _ v b o.type hown ad n c news hn hc hb hq.size
  refine wpList_plain hgd fun K hK => ?_
  unfold Oper.wp execOp
  simp only [ho, resolve, invoke, builtin, Sem.run_bind, Sem.run_pure, Result.andThen_ok, List.map_toArray, List.map_cons, List.map_nil, hs, hx, hr]
  exact hK _ _ (h v' w' h2 (gb_q_own h3 hq hA) ⟨h3, h4⟩)
/-- The same as a step of a region that draws its order. -/
theorem step_append_b {ops : Array Oper} {o : Oper} {a : Act} {K : Act → World → Prop} {R : Exit → Act → World → Prop} {E : Prop} (hgd : o.guard = none) (s x : Operand)
    (ho : o.op = .call { callee := .builtin .append, args := #[s, x], argTypes := #[68, 68] })
    (w0 W : World) (v : Value) (b : List UInt8) (hs : a.eval s = v) (hown : OwnB w0 W v b) (hq : Q w0 W) (news : List UInt8) (n : Nat) (hn : news.length = n) (hx : a.eval x = .slice (some ⟨W.heap.size, 0, none⟩) n n) (hb : b.length + n ≤ 211106232532992 ∧ n ≤ 140737488355328)
    (h : ∀ v' w', OwnB w0 w' v' (b ++ news) → Q w0 w' → (W.grownBy w' v.ownBlock ∧ (v'.ownBlock = v.ownBlock ∨ v'.ownBlock = some (W.heap.size + 1))) → K (a.put o.dst v') w') :
    if Region.wanted o (yielded ops a.tmps) = true then Oper.wp Tryd.prog o a (W.alloc (.cells (arrB news) 5)) K R else E := by
  have hw : Region.wanted o (yielded ops a.tmps) = true := by simp [Region.wanted, hgd]
  rw [if_pos hw]
  have hq1 := hq.alloc (.cells (arrB news) 5)
  have hA : ∀ k, v.ownBlock = some k → w0.heap.size ≤ k := fun k hk => hown.block hk
  have hown1 : OwnB w0 (W.alloc (.cells (arrB news) 5)) v b := hown.q ((Q.refl W).alloc _)
  obtain ⟨v', w', hr, h2, h3, h4⟩ := run_append_b w0 _ v b o.type hown1 ⟨W.heap.size, 0, none⟩ n n news hn (fun j hj => by
    rw [add_off, Nat.zero_add, cell_of_row _ _ _ _ _ _ (heap_alloc_new W _)]
    simp [arrB, hj]) hb hq1.size
  unfold Oper.wp execOp
  simp only [ho, resolve, invoke, builtin, Sem.run_bind, Sem.run_pure, Result.andThen_ok, List.map_toArray, List.map_cons, List.map_nil, hs, hx, hr]
  exact h v' w' h2 (gb_q_own h3 hq1 hA) ⟨gb_trans (World.grownBy_alloc W _ _) h3, by simpa using h4⟩
/-- string(b). -/
theorem conv_b {w0 w : World} {v : Value} {b : List UInt8} (h : OwnB w0 w v b) : (convert 68 9 v).run Tryd.prog w = .ok (.string ⟨b.toArray⟩) w := by
  rcases h with ⟨rfl, rfl⟩ | ⟨g, cap, cur, fz, rfl, hbg, hg, hfz, hnc, hcm, hcs, htake⟩
  · have := Lib.run_convert_nil_bytes (P := Tryd.prog) w 68 9 5 0 Tryd.underlying68 Tryd.underlying5 Tryd.underlying9
    rw [this]
  · refine run_convert_bytes_back (P := Tryd.prog) w 68 9 5 ⟨g, 0, none⟩ cap b Tryd.underlying68 Tryd.underlying5 Tryd.underlying9 ?_
    intro i hi
    rw [add_off, Nat.zero_add, cell_of_row w g i cur _ fz hg]
    have e : cur[i]? = (b.map u8V)[i]? := by rw [← htake, List.getElem?_take, if_pos hi, Array.getElem?_toList]
    rw [e]
    simp [u8V, hi]
/-- []byte(s). -/
theorem bytes_of (l : List UInt8) (w : World) (hl : l.length ≤ 9223372036854775807) : ∃ v w', (convert 9 68 (.string ⟨l.toArray⟩)).run Tryd.prog w = .ok v w' ∧ OwnB w w' v l ∧ Q w w' ∧ ∃ cap, v = .slice (some ⟨w.heap.size, 0, none⟩) l.length cap := by
  have hr := run_bytes_of_string (P := Tryd.prog) w 9 68 5 ⟨l.toArray⟩ Tryd.underlying9 Tryd.underlying68 Tryd.underlying5
  have hsz : (ByteArray.mk l.toArray).size = l.length := rfl
  have hge := grownCap_ge w l.length 0 5
  have hcm2 := grownCap_le_maxLen w l.length 0 5 (by unfold maxLen; omega)
  rw [hsz] at hr
  refine ⟨_, _, hr, .inr ⟨w.heap.size, _, _, _, rfl, Nat.le_refl _, heap_alloc_new w.drew _, .inr (Nat.le_refl _), hge, hcm2, ?_, ?_⟩, (Q.refl w).drew.alloc _, _, rfl⟩
  · simp [bytesRow, hsz]; omega
  · simp [bytesRow, u8V]
theorem OwnB.form {w0 w : World} {v : Value} {b : List UInt8} (h : OwnB w0 w v b) : ∃ A cap, v = .slice A b.length cap ∧ b.length ≤ cap ∧ cap ≤ maxLen ∧ (A = none → b = []) ∧ ∀ ad, A = some ad → w0.heap.size ≤ ad.block ∧ ad = ⟨ad.block, 0, none⟩ ∧
    (∀ i, i < b.length → w.cell? ⟨ad.block, i, none⟩ = some (.int .u8 ((gB b i).toNat : Int)) ∧ w.frozen? ⟨ad.block, i, none⟩ = false) := by
  rcases h with ⟨rfl, rfl⟩ | ⟨g, cap, cur, fz, rfl, hbg, hg, hfz, hnc, hcm, hcs, htake⟩
  · exact ⟨none, 0, rfl, Nat.le_refl _, by unfold maxLen; omega, fun _ => rfl, fun ad h => by cases h⟩
  · refine ⟨_, cap, rfl, hnc, hcm, fun h => (by cases h), fun ad h => ?_⟩
    cases h
    refine ⟨hbg, rfl, fun i hi => ⟨?_, frozen_any hg hfz (by omega)⟩⟩
    show w.cell? ⟨g, i, none⟩ = _
    rw [cell_of_row w g i cur _ fz hg]
    have e : cur[i]? = (b.map u8V)[i]? := by rw [← htake, List.getElem?_take, if_pos hi, Array.getElem?_toList]
    rw [e]
    simp [u8V, gB, List.getD, hi]
/-- Such a slice of at least one byte. -/
theorem OwnB.pos {w0 w : World} {v : Value} {b : List UInt8} (h : OwnB w0 w v b) (hb : 0 < b.length) : ∃ g cap, v = .slice (some ⟨g, 0, none⟩) b.length cap ∧ w0.heap.size ≤ g ∧ b.length ≤ cap ∧ cap ≤ maxLen ∧
    ∀ i, i < b.length → w.cell? ⟨g, i, none⟩ = some (.int .u8 ((gB b i).toNat : Int)) ∧ w.frozen? ⟨g, i, none⟩ = false := by
  obtain ⟨A, cap, hv, h1, h2, h3, h4⟩ := h.form
  cases A with
  | none => rw [h3 rfl] at hb; cases hb
  | some ad =>
    obtain ⟨h5, h6, h7⟩ := h4 ad rfl
    exact ⟨ad.block, cap, by rw [hv, ← h6], h5, h1, h2, h7⟩
theorem OwnB.set {w0 w : World} {g n cap : Nat} {b : List UInt8} (h : OwnB w0 w (.slice (some ⟨g, 0, none⟩) n cap) b) (i : Nat) (x : UInt8) : OwnB w0 (w.setCell ⟨g, i, none⟩ (.int .u8 (x.toNat : Int))) (.slice (some ⟨g, 0, none⟩) n cap) (b.set i x) := by
  rcases h with ⟨h, _⟩ | ⟨g', cap', cur, fz, hv, hbg, hg, hfz, hnc, hcm, hcs, htake⟩
  · cases h
  · cases hv
    refine .inr ⟨g, cap, _, fz, by simp, hbg, heap_setCell_any w g i cur _ fz _ hg, ?_, by simpa using hnc, hcm, by simpa using hcs, ?_⟩
    · rcases hfz with h | h
      · exact .inl h
      · right; simpa using h
    · simp only [Array.toList_setIfInBounds, List.length_set]
      rw [List.take_set, htake, List.map_set]
      rfl
/-- make([]byte, 0, n). -/
theorem make_b (n : Nat) (w : World) (hn : n ≤ 281474976710656) : ∃ w', (Instr.makeSlice 68 (.int .i64 0) (.int .i64 (n : Int))).run Tryd.prog w = .ok (.slice (some ⟨w.heap.size, 0, none⟩) 0 n) w' ∧ OwnB w w' (.slice (some ⟨w.heap.size, 0, none⟩) 0 n) [] ∧ Q w w' := by
  obtain ⟨i, hi, hz, hsz, hby⟩ := info_parts info_u8
  have h := run_make (P := Tryd.prog) w 68 5 i _ Tryd.underlying68 hi hz .i64 .i64 0 (n : Int) (by omega) (by omega) (by rw [hby]; omega) (by omega)
  refine ⟨_, h, .inr ⟨w.heap.size, n, _, (0, 0), rfl, Nat.le_refl _, heap_alloc_new w _, .inl rfl, Nat.zero_le _, by unfold maxLen; omega, ?_, rfl⟩, (Q.refl w).alloc _⟩
  rw [size_madeCells, hsz]; simp
end Go.Proofs.YtlhhiiemojhjdaaDoor
/- The reader: a word. -/
set_option linter.unusedVariables false
set_option linter.unusedSimpArgs false
namespace Go.Proofs.YtlhhiiemojhjdaaDoor
open Go Go.RowKit
theorem gB_drop (l : Txt) (i : Nat) (h : i < l.length) : l.drop i = gB l i :: l.drop (i + 1) := drop_at h
theorem GX.cellJ {S : List Nat} {a b : World} (h : GX S a b) {p : Addr} {v : Value} (hk : p.block ∉ S) (hc : a.cell? p = some v) : b.cell? p = some v := by
  have hlt := lt_of_cell hc
  unfold World.cell? at *
  rw [h.block _ hlt hk]; exact hc
/-- The rest of a word, at a place. -/
def WordSt (b : Nat) (s : Txt) (N : PR Unit) (wd : Txt) (i : Nat) (w W : World) : Prop := ∃ q, q ≤ s.length ∧ RdB W b s q ∧ GX [b] w W ∧ N = wordR (wd.drop i) (s.drop q)
set_option maxRecDepth 100000 in
theorem word_any (b : Nat) (s : Txt) (p : Nat) (wd : Txt) (w : World) (h : RdB w b s p) (hp : p ≤ s.length) (hl : s.length ≤ 1000000000) (hw : wd.length ≤ 1000) :
    Calls Tryd.prog 77 #[.pointer (some ⟨b, 0, none⟩), .string ⟨wd.toArray⟩] w (UnitP b s (wordR wd (s.drop p)) w) := by
  obtain ⟨v, w1, hcv, hown, hq1, cap, rfl⟩ := bytes_of wd w (by omega)
  obtain ⟨N, hN⟩ : ∃ N, wordR wd (s.drop p) = N := ⟨_, rfl⟩
  rw [hN]
  have HS : Hid (WordSt b s N wd 0 w w1) := Lib.hid ⟨p, hp, h.q hq1, GX.q hq1, hN.symm⟩
  have HG := Lib.hid (GX.refl [b] w1)
  have HOW := Lib.hid hown
  have HB := Lib.hid h.lt
  clear h hN hown hq1
  go_enter Tryd.func77, Tryd.ntmps77
  go_wp2_with fail
  clear hcv
  go_loopw [9] (fun i wx => ∃ k : Nat, k ≤ wd.length ∧ i = .int .i64 k ∧ Hid (WordSt b s N wd k w wx ∧ GX [b] w1 wx)) (fun i _ => wd.length - (intOf i).toNat)
  case atStart => exact ⟨0, Nat.zero_le _, rfl, Lib.hid ⟨HS.out, HG.out⟩⟩
  case round =>
    obtain ⟨k, hk, rfl, HI⟩ := hrel
    rename World => wa
    by_cases hlt : k < wd.length
    · have hd : decide (k < wd.length) = true := by simpa using hlt
      obtain ⟨g, cc, hv, _, _, _, hcell⟩ := HOW.out.pos (by omega)
      cases hv
      have cx := HI.out.2.cellJ (by simp; have := HB.out; omega) (hcell k hlt).1
      obtain ⟨q, hq, hR, hG, hN⟩ := HI.out.1
      rw [gB_drop wd k hlt] at hN
      have HN : Hid (N = (takeR (gB wd k) (s.drop q)).bind fun _ t => wordR (wd.drop (k + 1)) t) := Lib.hid hN
      have HT := Lib.hid (fun W (h : RdB W b s q) => take_any b s q (gB wd k) W h hq (by omega))
      have HR := Lib.hid hR
      have HG1 := Lib.hid hG
      obtain ⟨T, hT⟩ : ∃ T, takeR (gB wd k) (s.drop q) = T := ⟨_, rfl⟩
      rw [hT] at HN HT
      clear hcell hR hG hN hT
      go_wp2_with fail
      refine (HT.out _ HR.out).mono ?_
      intro e w2 hU
      have HU := Lib.hid hU
      clear hU cx
      rcases T with ⟨x, r⟩ | ⟨c, n⟩
      · obtain ⟨rfl, ⟨q2, h1, h2, h3⟩, h4⟩ := HU.out
        have HS2 : Hid (WordSt b s N wd (k + 1) w w2 ∧ GX [b] w1 w2) := Lib.hid ⟨⟨q2, h1, h3, HG1.out.trans h4, by rw [HN.out, h2]; rfl⟩, HI.out.2.trans h4⟩
        clear h2 h3 h4
        go_wp2_with fail
        go_roundw
        case rel => exact ⟨k + 1, by omega, by go_num, HS2⟩
        case measure => simp [intOf]; omega
      · obtain ⟨⟨bf, rfl, hf⟩, hg⟩ := HU.out
        have HX : Hid (UnitP b s N w (.panicked [{ v := .iface 76 (.pointer (some ⟨bf, 0, none⟩)), recovered := false }]) w2) := Lib.hid (by
          rw [HN.out]
          exact ⟨⟨bf, rfl, hf⟩, HG1.out.trans hg⟩)
        clear hf hg
        go_wp2_with fail
        exact ⟨rfl, HX.out⟩
    · have hd : decide (k < wd.length) = false := by simpa using hlt
      obtain rfl : k = wd.length := by omega
      obtain ⟨q, hq, hR, hG, hN⟩ := HI.out.1
      have HX : Hid (UnitP b s N w (.returned (.tuple #[])) wa) := Lib.hid (by
        rw [hN, List.drop_length]; exact ⟨rfl, ⟨q, hq, rfl, hR⟩, hG⟩)
      clear hR hG hN
      go_wp2_with fail
      go_end0
      exact HX.out
end Go.Proofs.YtlhhiiemojhjdaaDoor
/- JSON, plain: what the reader's walks ask of characters and sixteenths. -/
set_option linter.unusedVariables false
set_option linter.unusedSimpArgs false
namespace Go.Proofs.YtlhhiiemojhjdaaDoor
open Go Go.RowKit
theorem dec_ascii {b : UInt8} (t : List UInt8) (h : b.toNat < 128) : Lib.decodeL (b :: t) = (b.toNat, 1) := by
  rw [Lib.decodeL_N]
  show Lib.decodeN _ b.toNat _ _ _ = _
  unfold Lib.decodeN
  rw [if_pos h]
theorem dec_high {b : UInt8} (t : List UInt8) (h : ¬ b.toNat < 128) : 128 ≤ (Lib.decodeL (b :: t)).1 := by
  rw [Lib.decodeL_N]
  show 128 ≤ (Lib.decodeN _ b.toNat _ _ _).1
  unfold Lib.decodeN
  rw [if_neg h]
  generalize ((b :: t).getD 1 0).toNat = b1
  generalize ((b :: t).getD 2 0).toNat = b2
  generalize ((b :: t).getD 3 0).toNat = b3
  repeat' split
  all_goals (dsimp only; omega)
theorem dec_top (l : List UInt8) (h : l ≠ []) : (Lib.decodeL l).1 ≤ 1114111 := by
  cases l with
  | nil => exact absurd rfl h
  | cons b t =>
    rw [Lib.decodeL_N]
    show (Lib.decodeN _ b.toNat _ _ _).1 ≤ _
    have := b.toNat_lt
    unfold Lib.decodeN
    generalize ((b :: t).getD 1 0).toNat = b1
    generalize ((b :: t).getD 2 0).toNat = b2
    generalize ((b :: t).getD 3 0).toNat = b3
    repeat' split
    all_goals (dsimp only; omega)
theorem dec_k (l : List UInt8) (h : l ≠ []) : 1 ≤ (Lib.decodeL l).2 ∧ (Lib.decodeL l).2 ≤ 4 ∧ (Lib.decodeL l).2 ≤ l.length := by
  have h1 := Lib.decodeL_width l
  have h2 := Lib.decodeL_le l h
  refine ⟨by omega, ?_, h2⟩
  rw [Lib.decodeL_N]
  unfold Lib.decodeN
  repeat' split
  all_goals simp
theorem dec_go (l : List UInt8) (h : l ≠ []) : Lib.decodeGoB ⟨l.toArray⟩ = Lib.decodeL l := by
  unfold Lib.decodeGoB Lib.decodeL
  rw [if_neg]
  cases l with
  | nil => exact absurd rfl h
  | cons b t => simp [ByteArray.size]
theorem or_hex (n v : Nat) (hn : n < 4096) (hv : v < 16) : bits .or .i64 ((n : Int) * 16) (v : Int) = ((16 * n + v : Nat) : Int) := by
  have h0 : n * 16 ||| v = 16 * n + v := by
    have := Nat.shiftLeft_add_eq_or_of_lt (i := 4) (b := v) (by omega) n
    rw [Nat.shiftLeft_eq, show (2 : Nat) ^ 4 = 16 from rfl] at this
    omega
  have h1 : (BitVec.ofInt 64 ((n : Int) * 16)).toNat = n * 16 := by
    rw [show ((n : Int) * 16) = ((n * 16 : Nat) : Int) by omega, BitVec.ofInt_natCast, BitVec.toNat_ofNat]; exact Nat.mod_eq_of_lt (by omega)
  have h2 : (BitVec.ofInt 64 (v : Int)).toNat = v := by
    rw [BitVec.ofInt_natCast, BitVec.toNat_ofNat]; exact Nat.mod_eq_of_lt (by omega)
  show IntKind.i64.wrap ((BitVec.ofInt 64 ((n : Int) * 16) ||| BitVec.ofInt 64 (v : Int)).toNat : Int) = _
  rw [BitVec.toNat_or, h1, h2, h0, IntKind.wrap_i64]
  omega
/-- What is left of an escape's unit, i bytes on. -/
def unitAt (f i n : Nat) (l : List UInt8) : PR Nat := match i with
  | 0 => unitR f l
  | 1 => (mustR f 117 l).bind fun _ u => fourR f 4 0 u
  | k + 2 => fourR f (4 - k) n l
theorem unit_nil (f i n : Nat) (h : i < 6) : unitAt f i n [] = .bad 54 0 := by
  match i, h with
  | 0, _ => rfl
  | 1, _ => rfl
  | 2, _ => rfl
  | 3, _ => rfl
  | 4, _ => rfl
  | 5, _ => rfl
def wantB : List UInt8 := [92, 117, 48, 48, 48, 48]
theorem unit_two (f i : Nat) (b : UInt8) (t : List UInt8) (h : i < 2) : unitAt f i 0 (b :: t) = if b = gB wantB i then unitAt f (i + 1) 0 t else .bad 54 f := by
  match i, h with
  | 0, _ =>
    show ((mustR f 92 (b :: t)).bind fun _ t => (mustR f 117 t).bind fun _ u => fourR f 4 0 u) = _
    rw [mustR]
    show _ = if b = 92 then (mustR f 117 t).bind fun _ u => fourR f 4 0 u else _
    by_cases e : b = 92
    · rw [if_pos e, if_pos e]; rfl
    · rw [if_neg e, if_neg e]; rfl
  | 1, _ =>
    show ((mustR f 117 (b :: t)).bind fun _ u => fourR f 4 0 u) = _
    rw [mustR]
    show _ = if b = 117 then fourR f 4 0 t else _
    by_cases e : b = 117
    · rw [if_pos e, if_pos e]; rfl
    · rw [if_neg e, if_neg e]; rfl
theorem unit_hex (f i n : Nat) (b : UInt8) (t : List UInt8) (h : 2 ≤ i) (h6 : i < 6) : unitAt f i n (b :: t) = match hexJ b with
    | none => .bad 54 f
    | some v => unitAt f (i + 1) (16 * n + v) t := by
  obtain ⟨k, rfl⟩ : ∃ k, i = k + 2 := ⟨i - 2, by omega⟩
  show fourR f (4 - k) n (b :: t) = _
  obtain ⟨m, hm⟩ : ∃ m, 4 - k = m + 1 := ⟨3 - k, by omega⟩
  rw [hm, fourR]
  cases hexJ b with
  | none => rfl
  | some v =>
    show fourR f m _ t = fourR f (4 - (k + 1)) _ t
    rw [show 4 - (k + 1) = m by omega]
theorem unit_end (f n : Nat) (l : List UInt8) : unitAt f 6 n l = .ok n l := rfl
def hexA : List UInt8 := [48, 49, 50, 51, 52, 53, 54, 55, 56, 57, 97, 98, 99, 100, 101, 102, 65, 66, 67, 68, 69, 70]
theorem hex_ix (b : UInt8) : hexJ b = if 16 ≤ Lib.indexByte hexA b then some (Lib.indexByte hexA b - 6).toNat else if 0 ≤ Lib.indexByte hexA b then some (Lib.indexByte hexA b).toNat else none := by
  have h : ∀ n : Fin 256, hexJ n.val.toUInt8 = if 16 ≤ Lib.indexByte hexA n.val.toUInt8 then some (Lib.indexByte hexA n.val.toUInt8 - 6).toNat else if 0 ≤ Lib.indexByte hexA n.val.toUInt8 then some (Lib.indexByte hexA n.val.toUInt8).toNat else none := by decide +kernel
  simpa using h ⟨b.toNat, b.toNat_lt⟩
theorem hex_le (b : UInt8) : Lib.indexByte hexA b ≤ 21 ∧ -1 ≤ Lib.indexByte hexA b := by
  have h : ∀ n : Fin 256, Lib.indexByte hexA n.val.toUInt8 ≤ 21 ∧ -1 ≤ Lib.indexByte hexA n.val.toUInt8 := by decide +kernel
  simpa using h ⟨b.toNat, b.toNat_lt⟩
theorem hexJ_lt {b : UInt8} {v : Nat} (h : hexJ b = some v) : v < 16 := by
  have h1 := hex_le b
  rw [hex_ix] at h
  split at h
  · injection h with h; omega
  · split at h
    · injection h with h; omega
    · cases h
def escF : List UInt8 := [34, 92, 47, 98, 102, 110, 114, 116]
def escT : List UInt8 := [34, 92, 47, 8, 12, 10, 13, 9]
theorem esc_ix (b : UInt8) : simpleE b = if Lib.indexByte escF b < 0 then none else some (gB escT (Lib.indexByte escF b).toNat) := by
  have h : ∀ n : Fin 256, simpleE n.val.toUInt8 = if Lib.indexByte escF n.val.toUInt8 < 0 then none else some (gB escT (Lib.indexByte escF n.val.toUInt8).toNat) := by decide +kernel
  simpa using h ⟨b.toNat, b.toNat_lt⟩
theorem esc_le (b : UInt8) : Lib.indexByte escF b ≤ 7 ∧ -1 ≤ Lib.indexByte escF b := by
  have h : ∀ n : Fin 256, Lib.indexByte escF n.val.toUInt8 ≤ 7 ∧ -1 ≤ Lib.indexByte escF n.val.toUInt8 := by decide +kernel
  simpa using h ⟨b.toNat, b.toNat_lt⟩
theorem four_lt (f : Nat) : ∀ (k n : Nat) (l : List UInt8) (v : Nat) (r : List UInt8), fourR f k n l = .ok v r → v < (n + 1) * 16 ^ k
  | 0, n, l, v, r, h => by
    rw [fourR] at h
    injection h with h1 h2
    omega
  | k + 1, n, [], v, r, h => by rw [fourR] at h; cases h
  | k + 1, n, b :: t, v, r, h => by
    rw [fourR] at h
    cases hx : hexJ b with
    | none => rw [hx] at h; cases h
    | some d =>
      rw [hx] at h
      have h1 := four_lt f k (16 * n + d) t v r h
      have h2 := hexJ_lt hx
      have h3 : (16 * n + d + 1) * 16 ^ k ≤ (16 * (n + 1)) * 16 ^ k := Nat.mul_le_mul_right _ (by omega)
      have h4 : (n + 1) * 16 ^ (k + 1) = (16 * (n + 1)) * 16 ^ k := by rw [Nat.pow_succ, Nat.mul_comm (16 ^ k) 16, ← Nat.mul_assoc, Nat.mul_comm (n + 1) 16]
      omega
theorem enc_len (r : Int) : 1 ≤ (Lib.encodeRune r).length ∧ (Lib.encodeRune r).length ≤ 4 := by
  have := Lib.encodeRuneZ_length r
  unfold Lib.encodeRune
  rw [List.length_map]; exact this
end Go.Proofs.YtlhhiiemojhjdaaDoor
/- The reader: a unit of an escape. -/
set_option linter.unusedVariables false
set_option linter.unusedSimpArgs false
namespace Go.Proofs.YtlhhiiemojhjdaaDoor
open Go Go.RowKit
def NatP (b : Nat) (s : Txt) (a : PR Nat) (w : World) (e : Ending) (w' : World) : Prop :=
  match a with
  | .ok n r => e = .returned (.int .i64 (n : Int)) ∧ (∃ q, q ≤ s.length ∧ s.drop q = r ∧ RdB w' b s q) ∧ GX [b] w w'
  | .bad c n => Gave b s c n w e w'
/-- A unit, i bytes on. -/
def UnitSt (b : Nat) (s : Txt) (N : PR Nat) (f i n : Nat) (w W : World) : Prop := ∃ q, q ≤ s.length ∧ RdB W b s q ∧ GX [b] w W ∧ N = unitAt f i n (s.drop q)
theorem want_get : ∀ k, k < 6 → (#[Value.int .u8 92, .int .u8 117, .int .u8 48, .int .u8 48, .int .u8 48, .int .u8 48] : Array Value)[k]? = some (.int .u8 ((gB wantB k).toNat : Int)) := by
  intro k hk
  have : ∀ x : Fin 6, (#[Value.int .u8 92, .int .u8 117, .int .u8 48, .int .u8 48, .int .u8 48, .int .u8 48] : Array Value)[x.val]? = some (.int .u8 ((gB wantB x.val).toNat : Int)) := by
    intro x
    match x with
    | 0 => rfl
    | 1 => rfl
    | 2 => rfl
    | 3 => rfl
    | 4 => rfl
    | 5 => rfl
  exact this ⟨k, hk⟩
set_option maxRecDepth 100000 in
theorem unit_any (b : Nat) (s : Txt) (p fr : Nat) (w : World) (h : RdB w b s p) (hp : p ≤ s.length) (hl : s.length ≤ 1000000000) (hf : fr ≤ s.length) :
    Calls Tryd.prog 120 #[.pointer (some ⟨b, 0, none⟩), .int .i64 (fr : Int)] w (NatP b s (unitR (s.length - fr) (s.drop p)) w) := by
  obtain ⟨N, hN⟩ : ∃ N, unitR (s.length - fr) (s.drop p) = N := ⟨_, rfl⟩
  rw [hN]
  have HB := Lib.hid h.lt
  have HS0 : Hid (∀ W, Q w W → UnitSt b s N (s.length - fr) 0 0 w W) := Lib.hid (fun W hq => ⟨p, hp, h.q hq, GX.q hq, hN.symm⟩)
  clear h hN
  have kc := fun (w : World) (C : Array Value) (n c : Nat) => Lib.run_convert_bytes_const (P := Tryd.prog) w 68 5 C n c Tryd.underlying68 Tryd.underlying5
  go_enter Tryd.func120, Tryd.ntmps120
  go_wp2_with fail
  clear kc
  obtain ⟨W0, hW0⟩ : ∃ W0, w.alloc (.cells #[.int .u8 92, .int .u8 117, .int .u8 48, .int .u8 48, .int .u8 48, .int .u8 48] 5 (6, 7)) = W0 := ⟨_, rfl⟩
  have HW : Hid (∀ k, k < 6 → W0.cell? ⟨w.heap.size, k, none⟩ = some (.int .u8 ((gB wantB k).toNat : Int))) := Lib.hid (fun k hk => by
    rw [← hW0, cell_of_row _ _ _ _ _ _ (heap_alloc_new w _)]; exact want_get k hk)
  have HS : Hid (UnitSt b s N (s.length - fr) 0 0 w W0) := Lib.hid (HS0.out W0 (by rw [← hW0]; exact (Q.refl w).alloc _))
  rw [hW0]
  clear hW0 HS0
  go_loopw [13, 5] (fun i n wx => ∃ k m : Nat, k ≤ 6 ∧ m < 16 ^ (k - 2) ∧ i = .int .i64 k ∧ n = .int .i64 m ∧ Hid (UnitSt b s N (s.length - fr) k m w wx ∧ GX [b] W0 wx)) (fun i _ _ => 6 - (intOf i).toNat)
  case atStart => exact ⟨0, 0, Nat.zero_le _, by decide, rfl, rfl, Lib.hid ⟨HS.out, GX.refl _ _⟩⟩
  case round =>
    obtain ⟨k, m, hk, hm, rfl, rfl, HI⟩ := hrel
    rename World => wa
    by_cases hlt : k < 6
    · have hd : decide ((k : Int) < 6) = true := by simp; omega
      have cx := HI.out.2.cellJ (by simp; have := HB.out; omega) (HW.out k hlt)
      obtain ⟨q, hq, hR, hG, hN⟩ := HI.out.1
      have HR := Lib.hid hR
      have HG1 := Lib.hid hG
      have HN := Lib.hid hN
      have c0 : ∀ mm : QW wa, mm.val.cell? ⟨b, 0, none⟩ = some (.string ⟨s.toArray⟩) := fun mm => mm.cell HR.out.c0
      have c1 : ∀ mm : QW wa, mm.val.cell? ⟨b, 1, none⟩ = some (.int .i64 (q : Int)) := fun mm => mm.cell HR.out.c1
      have HBad : Hid (∀ f', N = .bad 54 f' → ∀ a : Nat, s.length - f' = a → ∀ (w1 w2 : World) bf, Q wa w1 → FaultJ w2 bf 54 (a : Int) → Q w1 w2 → NatP b s N w (.panicked [{ v := .iface 76 (.pointer (some ⟨bf, 0, none⟩)), recovered := false }]) w2) := Lib.hid (fun f' e a ha w1 w2 bf h1 hf h2 => by
        rw [e]; refine ⟨⟨bf, rfl, ?_⟩, HG1.out.trans (GX.q (h1.trans h2))⟩; rw [ha]; exact hf)
      have hqi : (q : Int) ≤ 1000000000 := by omega
      clear hR hG hN
      by_cases hqs : s.length ≤ q
      · have g1 : decide (s.length ≤ q) = true := by simpa using hqs
        have HX := Lib.hid (HBad.out 0 (by rw [HN.out, List.drop_of_length_le hqs, unit_nil _ _ _ hlt]) q (by omega))
        clear hqs HBad
        go_upto_region 5 with (fail)
        refine wp_region_q (by kernel_rfl) (by kernel_rfl) ?_
        (repeat (go_big_quiet_step (fail)))
        refine wpQuiet_nil ?_
        rintro w1 ⟨m1, hm1⟩
        have hq1 : Q wa w1 := by rw [hm1]; exact m1.le
        clear m1 hm1 c0 c1
        have c1 := (HR.out.q hq1).c1
        have HQ := Lib.hid hq1
        clear hq1
        go_wp2_with fail
        refine (fail_any 54 _ _).mono ?_
        rintro e w2 ⟨⟨bf, rfl, hf⟩, hq2⟩
        have HF := Lib.hid hf
        have HQ2 := Lib.hid hq2
        clear hf hq2
        go_wp2_with fail
        exact ⟨rfl, HX.out _ _ _ HQ.out HF.out HQ2.out⟩
      · have g1 : decide (s.length ≤ q) = false := by simpa using hqs
        have hqlt : q < s.length := by omega
        have hdp := gB_drop s q hqlt
        have HT : Hid (RdB (wa.setCell ⟨b, 1, none⟩ (.int .i64 ((q : Int) + 1))) b s (q + 1)) := Lib.hid (by have := HR.out.set (q + 1); simpa using this)
        have g3 : decide (q < s.length) = true := by simpa using hqlt
        obtain ⟨v, hv⟩ : ∃ v, gB s q = v := ⟨_, rfl⟩
        rw [hv] at hdp
        have HV := Lib.hid hv
        have hN2 := HN.out
        rw [hdp] at hN2
        have HN2 := Lib.hid hN2
        have hvl : (v.toNat : Int) < 256 := by have := v.toNat_lt; omega
        have HNext : Hid (∀ w1 m', Q wa w1 → N = unitAt (s.length - fr) (k + 1) m' (s.drop (q + 1)) → UnitSt b s N (s.length - fr) (k + 1) m' w (w1.setCell ⟨b, 1, none⟩ (.int .i64 ((q : Int) + 1))) ∧ GX [b] W0 (w1.setCell ⟨b, 1, none⟩ (.int .i64 ((q : Int) + 1)))) := Lib.hid (fun w1 m' h1 hn =>
          ⟨⟨q + 1, hqlt, by have := (HR.out.q h1).set (q + 1); simpa using this, (HG1.out.reader h1).set (by simp) _ _, hn⟩, (HI.out.2.reader h1).set (by simp) _ _⟩)
        clear hqs hdp hN2 HT
        go_upto_region 5 with (fail)
        refine wp_region_q (by kernel_rfl) (by kernel_rfl) ?_
        (repeat (go_big_quiet_step (fail)))
        refine wpQuiet_nil ?_
        rintro w1 ⟨m1, hm1⟩
        have hq1 : Q wa w1 := by rw [hm1]; exact m1.le
        clear m1 hm1 c0 c1 g1
        have HQ1 := Lib.hid hq1
        have c0 : ∀ mm : QW w1, mm.val.cell? ⟨b, 0, none⟩ = some (.string ⟨s.toArray⟩) := fun mm => mm.cell (HR.out.q HQ1.out).c0
        have c1 : ∀ mm : QW w1, mm.val.cell? ⟨b, 1, none⟩ = some (.int .i64 (q : Int)) := fun mm => mm.cell (HR.out.q HQ1.out).c1
        clear hq1
        go_upto_region 7 with (fail)
        refine wp_region_q (by kernel_rfl) (by kernel_rfl) ?_
        (repeat (go_big_quiet_step (fail)))
        refine wpQuiet_nil ?_
        rintro w2 ⟨m2, hm2⟩
        have hq2 : Q wa w2 := HQ1.out.trans (by rw [hm2]; exact m2.le)
        clear m2 hm2 c0 c1 g3 hqlt
        have HQ2 := Lib.hid hq2
        have c1 := (HR.out.q hq2).c1
        have f1 := (HR.out.q hq2).f 1
        clear hq2 hv
        by_cases hk2 : k < 2
        · have g1 : decide ((k : Int) < 2) = true := by simp; omega
          have hm0 : m = 0 := by rw [show k - 2 = 0 by omega] at hm; simpa using hm
          subst hm0
          have hu := unit_two (s.length - fr) k v (s.drop (q + 1)) hk2
          by_cases hc : v = gB wantB k
          · have g2 : (((v.toNat : Int)) != ((gB wantB k).toNat : Int)) = false := by rw [hc]; simp
            rw [if_pos hc] at hu
            have HX := Lib.hid (HNext.out w2 0 HQ2.out (HN2.out.trans hu))
            clear hu hc HBad
            go_wp2_with fail
            go_roundw
            case rel => exact ⟨k + 1, 0, by omega, Nat.pow_pos (by decide), by go_num, rfl, HX⟩
            case measure => simp [intOf]; omega
          · have g2 : (((v.toNat : Int)) != ((gB wantB k).toNat : Int)) = true := by
              simp only [bne_iff_ne, ne_eq]; intro e; exact hc (UInt8.toNat_inj.1 (by omega))
            rw [if_neg hc] at hu
            have HX := Lib.hid (HBad.out _ (HN2.out.trans hu) fr (by omega))
            clear hu hc HBad
            go_wp2_with fail
            refine (fail_any 54 _ _).mono ?_
            rintro e w3 ⟨⟨bf, rfl, hf⟩, hq2⟩
            have HF := Lib.hid hf
            have HQ3 := Lib.hid hq2
            clear hf hq2
            go_wp2_with fail
            exact ⟨rfl, HX.out _ _ _ HQ2.out HF.out HQ3.out⟩
        · have g1 : decide ((k : Int) < 2) = false := by simp; omega
          have hu := unit_hex (s.length - fr) k m v (s.drop (q + 1)) (by omega) hlt
          have hx := hex_ix v
          have hz := hex_le v
          have hi : Lib.indexByte hexA ((v.toNat : Int).toNat.toUInt8) = Lib.indexByte hexA v := by simp
          generalize Lib.indexByte hexA v = z at hx hz hi
          have HIB : Hid (∀ W, Calls Tryd.prog 118 #[.string ⟨#[48, 49, 50, 51, 52, 53, 54, 55, 56, 57, 97, 98, 99, 100, 101, 102, 65, 66, 67, 68, 69, 70]⟩, .int .u8 (v.toNat : Int)] W fun e w' => e = .returned (.int .i64 z) ∧ w' = W) := Lib.hid (fun W => by
            have := Tryd.strings_IndexByte ⟨#[48, 49, 50, 51, 52, 53, 54, 55, 56, 57, 97, 98, 99, 100, 101, 102, 65, 66, 67, 68, 69, 70]⟩ (v.toNat : Int) W
            have hi' : Lib.indexByte (⟨#[48, 49, 50, 51, 52, 53, 54, 55, 56, 57, 97, 98, 99, 100, 101, 102, 65, 66, 67, 68, 69, 70]⟩ : ByteArray).data.toList ((v.toNat : Int).toNat.toUInt8) = z := hi
            rw [hi'] at this
            exact this)
          clear hi
          have hpow : m < 4096 := Nat.lt_of_lt_of_le hm (Nat.pow_le_pow_right (n := 16) (by decide) (show k - 2 ≤ 3 by omega))
          have hpow2 : ∀ d, d < 16 → 16 * m + d < 16 ^ (k + 1 - 2) := fun d hd => by
            rw [show k + 1 - 2 = (k - 2) + 1 by omega, Nat.pow_succ]; omega
          have HP := Lib.hid hpow2
          clear hpow2 hm
          by_cases h16 : 16 ≤ z
          · rw [if_pos h16] at hx
            rw [hx] at hu
            have g2 : decide ((16 : Int) ≤ z) = true := by simpa using h16
            obtain ⟨d, hdz⟩ : ∃ d : Nat, (z - 6).toNat = d := ⟨_, rfl⟩
            have hd16 : d < 16 := by omega
            rw [hdz] at hu
            have hw0 : z - 6 = (d : Int) := by omega
            have HX := Lib.hid (HNext.out w2 (16 * m + d) HQ2.out (HN2.out.trans hu))
            have ho := or_hex m d hpow hd16
            have HPd := HP.out d hd16
            have hwr : IntKind.i64.wrap ((m : Int) * 16) = (m : Int) * 16 := by rw [IntKind.wrap_i64]; omega
            clear hu hx hdz HBad
            go_wp2_with fail
            refine (HIB.out _).mono ?_
            rintro e w3 ⟨rfl, rfl⟩
            go_wp2_with fail
            go_roundw
            case rel => exact ⟨k + 1, 16 * m + d, by omega, HPd, by go_num, by go_num, HX⟩
            case measure => simp [intOf]; omega
          · rw [if_neg h16] at hx
            have g2 : decide ((16 : Int) ≤ z) = false := by simpa using h16
            by_cases h0 : 0 ≤ z
            · rw [if_pos h0] at hx
              rw [hx] at hu
              have g3 : decide ((0 : Int) ≤ z) = true := by simpa using h0
              obtain ⟨d, hdz⟩ : ∃ d : Nat, z.toNat = d := ⟨_, rfl⟩
              have hd16 : d < 16 := by omega
              rw [hdz] at hu
              obtain rfl : z = (d : Int) := by omega
              have HX := Lib.hid (HNext.out w2 (16 * m + d) HQ2.out (HN2.out.trans hu))
              have ho := or_hex m d hpow hd16
              have HPd := HP.out d hd16
              have hwr : IntKind.i64.wrap ((m : Int) * 16) = (m : Int) * 16 := by rw [IntKind.wrap_i64]; omega
              clear hu hx hdz HBad
              go_wp2_with fail
              refine (HIB.out _).mono ?_
              rintro e w3 ⟨rfl, rfl⟩
              go_wp2_with fail
              go_roundw
              case rel => exact ⟨k + 1, 16 * m + d, by omega, HPd, by go_num, by go_num, HX⟩
              case measure => simp [intOf]; omega
            · rw [if_neg h0] at hx
              rw [hx] at hu
              have g3 : decide ((0 : Int) ≤ z) = false := by simpa using h0
              have HX := Lib.hid (HBad.out _ (HN2.out.trans hu) fr (by omega))
              clear hu hx HBad
              go_wp2_with fail
              refine (HIB.out _).mono ?_
              rintro e w3 ⟨rfl, rfl⟩
              go_wp2_with fail
              refine (fail_any 54 _ _).mono ?_
              rintro e w4 ⟨⟨bf, rfl, hf⟩, hq2⟩
              have HF := Lib.hid hf
              have HQ3 := Lib.hid hq2
              clear hf hq2
              go_wp2_with fail
              exact ⟨rfl, HX.out _ _ _ HQ2.out HF.out HQ3.out⟩
    · have hd : decide ((k : Int) < 6) = false := by simp; omega
      obtain rfl : k = 6 := by omega
      obtain ⟨q, hq, hR, hG, hN⟩ := HI.out.1
      have HX : Hid (NatP b s N w (.returned (.int .i64 (m : Int))) wa) := Lib.hid (by
        rw [hN, unit_end]; exact ⟨rfl, ⟨q, hq, rfl, hR⟩, hG⟩)
      clear hR hG hN hd
      go_wp2_with fail
      go_ret
      exact HX.out
end Go.Proofs.YtlhhiiemojhjdaaDoor
/- The reader: a builder beside it. -/
set_option linter.unusedVariables false
set_option linter.unusedSimpArgs false
namespace Go.Proofs.YtlhhiiemojhjdaaDoor
open Go Go.RowKit
theorem infoB7 : Builder.Extra Tryd.prog lays167_ren := {
  sizeBuilder := by kernel_rfl
  liesBuilder := by kernel_rfl
  t5 := Tryd.underlying5
  a5 := Tryd.isAgg5
  z5 := Tryd.sizeOf5
  v5 := Tryd.zeroValue5
  infoByte := by kernel_rfl
  cellsByte := by kernel_rfl
  sizeByte := by kernel_rfl
  neB5 := by decide }
theorem infoB8 : Builder.Extra Tryd.prog lays168_ren := {
  sizeBuilder := by kernel_rfl
  liesBuilder := by kernel_rfl
  t5 := Tryd.underlying5
  a5 := Tryd.isAgg5
  z5 := Tryd.sizeOf5
  v5 := Tryd.zeroValue5
  infoByte := by kernel_rfl
  cellsByte := by kernel_rfl
  sizeByte := by kernel_rfl
  neB5 := by decide }
/-- A builder in block ob: its bytes lie at or behind B. -/
def BJ (B ob : Nat) (l : Txt) (w : World) : Prop := Lib.IsBuilderF 70 5 B ob (Lib.byteCells l) w
theorem BJ.new (B : Nat) (w : World) (hq : B ≤ w.heap.size) : BJ B w.heap.size [] (w.alloc (.cells #[.pointer none, .slice none 0 0] 70)) :=
  Lib.IsBuilderF.of (.inl ⟨hq, .slice none 0 0, (MapKept.heap_alloc w _).1, ⟨by simp [Lib.byteCells], .inl ⟨rfl, rfl⟩⟩, by simp [Value.ownBlock]⟩)
theorem BJ.lt {B b : Nat} {l : Txt} {w : World} (h : BJ B b l w) : B ≤ b ∧ b < w.heap.size := by
  rcases h with h | h <;> exact ⟨h.1, h.lt⟩
theorem bjByte (B ob : Nat) (l : Txt) (c : UInt8) (w : World) (h : BJ B ob l w) (hl : l.length + 1 ≤ 140737488355328) (hB : B ≤ w.heap.size) :
    Calls Tryd.prog 119 #[.pointer (some ⟨ob, 0, none⟩), .int .u8 c.toNat] w fun e w' => e = .returned .nilIface ∧ BJ B ob (l ++ [c]) w' ∧ Below B w w' :=
  (Any.Builder_WriteByte_k lays167 infoB7 B ob (Lib.byteCells l) c.toNat w h (by rw [byteCells_length]; exact hl) hB).mono fun e w' ⟨h1, h2, h3, _⟩ =>
    ⟨h1, .inr (by rw [byteCells_append]; exact h2), h3⟩
theorem bjRune (B ob : Nat) (l : Txt) (r : Int) (hr0 : -2147483648 ≤ r) (hr1 : r ≤ 2147483647) (w : World) (h : BJ B ob l w) (hl : l.length + 4 ≤ 140737488355328) (hB : B ≤ w.heap.size) :
    Calls Tryd.prog 106 #[.pointer (some ⟨ob, 0, none⟩), .int .i32 r] w fun e w' => e = .returned (.tuple #[.int .i64 (Lib.encodeRune r).length, .nilIface]) ∧ BJ B ob (l ++ Lib.encodeRune r) w' ∧ Below B w w' :=
  (Any.Builder_WriteRune_k lays168 infoB8 B ob (Lib.byteCells l) r hr0 hr1 w h (by rw [byteCells_length]; exact hl) hB).mono fun e w' ⟨h1, h2, h3, _⟩ =>
    ⟨by rw [h1, Lib.runeCells_length], .inr (by rw [byteCells_append, Lib.byteCells_encodeRune]; exact h2), h3⟩
theorem bjString (B ob : Nat) (l : Txt) (w : World) (h : BJ B ob l w) (hB : B ≤ w.heap.size) :
    Calls Tryd.prog 43 #[.pointer (some ⟨ob, 0, none⟩)] w fun e w' => e = .returned (.string ⟨l.toArray⟩) ∧ Below B w w' :=
  (Tryd.Builder_String_any_k B ob l w h hB).mono fun e w' ⟨h1, _, h3, _⟩ => ⟨h1, h3⟩
theorem BJ.grown {B b : Nat} {l : Txt} {w w' : World} {row : Option Nat} (h : BJ B b l w) (hg : w.grownBy w' row) (hr : ∀ r o, row = some r → w.heap[r]? = some o → (∀ c fz, o ≠ .cells c 5 fz) ∧ r ≠ b) : BJ B b l w' := by
  have go : ∀ p, Lib.BuilderAtF 70 5 B b p (Lib.byteCells l) w → Lib.BuilderAtF 70 5 B b p (Lib.byteCells l) w' := by
    rintro p ⟨h1, v, h2, h3, h4⟩
    have hlt := (Array.getElem?_eq_some_iff.1 h2).1
    refine ⟨h1, v, (hg.block b hlt (fun e => (hr b _ e.symm h2).2 rfl)).trans h2, ?_, h4⟩
    refine h3.kept hg ?_
    rcases hv : v.ownBlock with _ | k
    · exact .inl rfl
    · obtain ⟨c, fz, hc⟩ := Lib.ownsRowF_kind h3 k hv
      exact .inr (fun e => (hr k _ e.symm hc).1 c fz rfl)
  rcases h with h | h
  · exact .inl (go _ h)
  · exact .inr (go _ h)
theorem BJ.q {B b : Nat} {l : Txt} {w w' : World} (h : BJ B b l w) (hq : Q w w') : BJ B b l w' :=
  h.grown (row := none) ⟨hq.os, hq.tape, hq.output, hq.size, fun k hk _ => Below.block hq k hk⟩ (fun _ _ e => by cases e)
/-- The reader goes on: the builder stands. -/
theorem BJ.rd {B ob b p : Nat} {l s : Txt} {w w' : World} (h : BJ B ob l w) (hR : RdB w b s p) (hb : b < B) (hg : GX [b] w w') : BJ B ob l w' := by
  refine h.grown (row := some b) ⟨hg.os, hg.tape, hg.output, hg.size, fun k hk hn => hg.block k hk (by simpa using fun e : k = b => hn (by rw [e]))⟩ ?_
  rintro r o e ho
  injection e with e
  subst e
  have h1 := h.lt.1
  refine ⟨fun c fz e2 => ?_, by omega⟩
  unfold RdB at hR
  rw [hR] at ho
  rw [← Option.some.inj ho] at e2
  injection e2 with _ e3 _
  exact absurd e3 (by decide)
theorem GX.below {S : List Nat} {a b c : World} (h : GX S a b) (k : Below a.heap.size b c) : GX S a c :=
  ⟨k.os.trans h.os, k.tape.trans h.tape, k.output.trans h.output, Nat.le_trans h.size k.size, fun i hi hn => (k.block i hi).trans (h.block i hi hn)⟩
theorem RdB.below {B b p : Nat} {s : Txt} {w w' : World} (h : RdB w b s p) (hb : b < B) (k : Below B w w') : RdB w' b s p := (k.block b hb).trans h
end Go.Proofs.YtlhhiiemojhjdaaDoor
