/- Texts of this proof, laid into one: PaP, PaQ, PaN. -/
import Derived.Test.YtbhgekhcpagkoaaDoorMh08
import Derived.Deep.MidRow
/- The laws' own helpers: copied, still, SameUpload, SameVersion. -/
set_option linter.unusedVariables false
set_option linter.unusedSimpArgs false
namespace Go.Proofs.YtbhgekhcpagkoaaDoor
open Go Go.RowKit
theorem cellsP_set (ps : List PartD) (k : Nat) (p : PartD) (hk : k < ps.length) : cellsP (ps.set k p) = (cellsP ps).take (k * 5) ++ partL p ++ (cellsP ps).drop (k * 5 + 5) := by
  rw [List.set_eq_take_append_cons_drop, if_pos hk, cellsP_take, show k * 5 + 5 = (k + 1) * 5 by omega, cellsP_drop, show ps.take k ++ p :: ps.drop (k + 1) = ps.take k ++ [p] ++ ps.drop (k + 1) by simp, cellsP_app, cellsP_app, cellsP_one]
/-- l[k] = p. -/
theorem OwnP.setP {w0 w : World} {A : Option Addr} {len cap : Nat} {ps : List PartD} (h : OwnP w0 w (.slice A len cap) ps) (k : Nat) (hk : k < len) (p : PartD) : ∃ g, A = some ⟨g, 0, none⟩ ∧ w0.heap.size ≤ g ∧ w.there g (k * 5) (partL p).toArray.size ∧
    OwnP w0 (w.setCells g (k * 5) (partL p)) (.slice A len cap) (ps.set k p) ∧ w.grownBy (w.setCells g (k * 5) (partL p)) (some g) := by
  rcases h.2 with ⟨hv, h0⟩ | ⟨g, cap', cur, hv, hb, hh, hn, hm, hcs, ht⟩
  · cases hv; omega
  · cases hv
    have hl5 : (partL p).length = 5 := rfl
    have hfit : k * 5 + 5 ≤ cur.size := by rw [hcs]; omega
    have hset := heap_setCells g 31 (0, 0) (partL p) (k * 5) w cur hh (by rw [hl5]; exact hfit)
    refine ⟨g, rfl, hb, ?_, ⟨by rw [cellsP_len], .inr ⟨g, cap, _, by rw [List.length_set], hb, hset, by rw [List.length_set]; exact hn, hm, ?_, ?_⟩⟩, setCells_gb g _ _ _⟩
    · intro j hj
      have hj5 : j < 5 := by simpa [hl5] using hj
      refine ⟨?_, frozen_of_row w g _ _ _ hh⟩
      rw [cell_of_row _ _ _ _ _ _ hh, Array.getElem?_eq_getElem (by omega)]; rfl
    · simp [hl5]; omega
    · rw [List.length_set, cellsP_set ps k p hk]
      have e1 : (cellsP ps).take (k * 5) = cur.toList.take (k * 5) := by rw [← ht, List.take_take, Nat.min_eq_left (by omega)]
      have e2 : (cellsP ps).drop (k * 5 + 5) = (cur.toList.drop (k * 5 + 5)).take (ps.length * 5 - (k * 5 + 5)) := by rw [← ht, List.drop_take]
      rw [e1, e2]
      have hl1 : (cur.toList.take (k * 5)).length = k * 5 := by rw [List.length_take]; simp; omega
      have ha : (cur.toList.take (k * 5) ++ partL p).length = k * 5 + 5 := by rw [List.length_append, hl1, hl5]
      rw [List.take_append, ha, List.take_of_length_le (by rw [ha]; omega), hl5]
theorem partL_one (p : PartD) : (partL p).toArray.all (·.oneCell') = true := by rw [List.all_toArray]; rfl
def tailP : PartD := ⟨-7, 0, 0, [], 0⟩
set_option maxRecDepth 100000 in
set_option maxHeartbeats 2000000 in
theorem copied_any (A : Option Addr) (n cap : Nat) (ps : List PartD) (w : World) (h : PartsAt w A n ps) (hn : n ≤ 2932031007402) :
    Calls Tryd.prog 14 #[.slice A n cap] w fun e w' => e = .returned (.slice (some ⟨w.heap.size, 0, none⟩) (n + 1) (n + 1)) ∧ OwnP w w' (.slice (some ⟨w.heap.size, 0, none⟩) (n + 1) (n + 1)) (ps ++ [tailP]) ∧ Q w w' := by
  obtain ⟨w3, hmk, ho3, hq3⟩ := make_parts w (n + 1) (n + 1) (Nat.le_refl _) (by omega)
  have hmk : (Instr.makeSlice 22 (.int .i64 ((n : Int) + 1)) (.int .i64 ((n : Int) + 1))).run Tryd.prog w = .ok (.slice (some ⟨w.heap.size, 0, none⟩) (n + 1) (n + 1)) w3 := hmk
  have hnb : (n : Int) ≤ 2932031007402 := by omega
  have HNL := Lib.hid h.1
  obtain ⟨G, hG⟩ : ∃ G, G = w.heap.size := ⟨_, rfl⟩
  rw [← hG] at hmk ho3 ⊢
  have HG := Lib.hid hG
  clear hG
  go_enter Tryd.func14, Tryd.ntmps14
  go_upto_region 2 with (fail)
  iterate 7 go_step
  refine wpList_copy_ps rfl (.tmp 8) (.tmp 9) rfl w w3 G (n + 1) (n + 1) (List.replicate (n + 1) default) ps _ n cap (by rfl) ho3 List.length_replicate (by rfl) (h.q hq3) hq3 ?_
  intro w4 ho4 hq4 _
  have e1 : ps.take (n + 1) ++ (List.replicate (n + 1) (default : PartD)).drop n = ps ++ [default] := by
    rw [List.take_of_length_le (by have := HNL.out; omega), List.drop_replicate, show n + 1 - n = 1 by omega]; rfl
  rw [e1] at ho4
  obtain ⟨g, hg, hgs, hth, ho5, hg5⟩ := ho4.setP n (by omega) tailP
  cases hg
  have e2 : (ps ++ [(default : PartD)]).set n tailP = ps ++ [tailP] := by rw [HNL.out, List.set_append_right _ _ (Nat.le_refl _)]; simp
  rw [e2] at ho5
  have HO5 := Lib.hid ho5
  have HQ5 := Lib.hid (Below.grown hq4 hg5 hq4.size (fun k hk => by cases hk; rw [HG.out]; exact Nat.le_refl _))
  clear hmk ho3 ho4 e1 e2 ho5 hg5
  go_wp2_with (refine wpList_store_mid rfl 31 _ _ rfl G (n * 5) (partL tailP).toArray (by rfl) (by rfl) hth infoP (partL_one _) ?_)
  go_ret
  exact ⟨rfl, HO5.out, HQ5.out⟩
theorem gP_app (ps qs : List PartD) (k : Nat) (hk : k < ps.length) : gP (ps ++ qs) k = gP ps k := by
  rw [gP_eq _ k (by rw [List.length_append]; omega), gP_eq _ k hk, List.getElem_append_left hk]
theorem gP_end (ps : List PartD) (p : PartD) : gP (ps ++ [p]) ps.length = p := by
  rw [gP_eq _ _ (by rw [List.length_append]; simp), List.getElem_append_right (Nat.le_refl _)]; simp
theorem neq_same (p : PartD) (w : World) : (binOp .neq 31 (.agg #[.int .i64 p.num, .int .i64 p.size, .int .i64 p.time, .string ⟨p.tag.toArray⟩, .int .i64 p.blob]) (.agg #[.int .i64 p.num, .int .i64 p.size, .int .i64 p.time, .string ⟨p.tag.toArray⟩, .int .i64 p.blob])).run Tryd.prog w = .ok (.bool false) w := by
  have ht : Tryd.prog.underlying 31 = some (.struct (Tryd.prog.fieldsOf 31)) := by kernel_rfl
  have hp : Tryd.prog.stoodInHeld 31 = false := by kernel_rfl
  rw [run_neq_struct, run_equalIn_agg w 9999 31 _ _ ht hp]
  simp [Program.fieldsOf, Tryd.underlying31, Op.eqFields, part, Tryd.isAgg3, Tryd.isAgg9, run_equalIn_int w 9998 3 _ _ _ _ Tryd.underlying3, run_equalIn_string w 9998 9 _ _ Tryd.underlying9]
set_option maxRecDepth 100000 in
set_option maxHeartbeats 2000000 in
theorem still_any (A B : Option Addr) (n cap cap2 : Nat) (ps : List PartD) (w : World) (h : PartsAt w A (n + 1) (ps ++ [tailP])) (hl : PartsAt w B n ps) (hn : n ≤ 2932031007402) :
    Calls Tryd.prog 16 #[.slice A (n + 1) cap, .slice B n cap2] w fun e w' => e = .returned (.bool true) ∧ Q w w' := by
  have HNL := Lib.hid hl.1
  have HH := Lib.hid h
  have HL := Lib.hid hl
  clear h hl
  have hnb : (n : Int) ≤ 2932031007402 := by omega
  go_enter Tryd.func16, Tryd.ntmps16
  go_wp2_with fail
  go_loopw [5] (fun i wr => ∃ k : Nat, k ≤ n ∧ i = .int .i64 (k : Int) ∧ Hid (Q w wr)) (fun i _ => n - (intOf i).toNat)
  case atStart => exact ⟨0, by omega, rfl, Q.refl _⟩
  case round =>
    obtain ⟨k, hk, rfl, HQ⟩ := hrel
    obtain ⟨g, off, hA, c0, c1, c2, c3, c4⟩ := (HH.out.q HQ.out).at (show k < n + 1 by omega)
    subst hA
    by_cases hlt : k < n
    · have hkl : k < ps.length := by rw [← HNL.out]; exact hlt
      have g1 : decide (k < n) = true := by simpa using hlt
      have g2 : decide ((k : Int) < (n : Int) + 1) = true := by simp; omega
      have hk2 : (k : Int) < (n : Int) + 1 := by omega
      rw [gP_app ps _ k hkl] at c0 c1 c2 c3 c4
      obtain ⟨g', off', rfl, d0, d1, d2, d3, d4⟩ := (HL.out.q HQ.out).at hlt
      have kc0 : ∀ m : QW wr, m.val.cell? ⟨g, off + k * 5, none⟩ = some (.int .i64 (gP ps k).num) := fun m => m.cell c0
      have kc1 : ∀ m : QW wr, m.val.cell? ⟨g, off + k * 5 + 1, none⟩ = some (.int .i64 (gP ps k).size) := fun m => m.cell c1
      have kc2 : ∀ m : QW wr, m.val.cell? ⟨g, off + k * 5 + 2, none⟩ = some (.int .i64 (gP ps k).time) := fun m => m.cell c2
      have kc3 : ∀ m : QW wr, m.val.cell? ⟨g, off + k * 5 + 3, none⟩ = some (.string ⟨(gP ps k).tag.toArray⟩) := fun m => m.cell c3
      have kc4 : ∀ m : QW wr, m.val.cell? ⟨g, off + k * 5 + 4, none⟩ = some (.int .i64 (gP ps k).blob) := fun m => m.cell c4
      have kd0 : ∀ m : QW wr, m.val.cell? ⟨g', off' + k * 5, none⟩ = some (.int .i64 (gP ps k).num) := fun m => m.cell d0
      have kd1 : ∀ m : QW wr, m.val.cell? ⟨g', off' + k * 5 + 1, none⟩ = some (.int .i64 (gP ps k).size) := fun m => m.cell d1
      have kd2 : ∀ m : QW wr, m.val.cell? ⟨g', off' + k * 5 + 2, none⟩ = some (.int .i64 (gP ps k).time) := fun m => m.cell d2
      have kd3 : ∀ m : QW wr, m.val.cell? ⟨g', off' + k * 5 + 3, none⟩ = some (.string ⟨(gP ps k).tag.toArray⟩) := fun m => m.cell d3
      have kd4 : ∀ m : QW wr, m.val.cell? ⟨g', off' + k * 5 + 4, none⟩ = some (.int .i64 (gP ps k).blob) := fun m => m.cell d4
      clear c0 c1 c2 c3 c4 d0 d1 d2 d3 d4
      go_wp2_with fail
      refine wp_region_q (by kernel_rfl) (by kernel_rfl) ?_
      (repeat (go_big_quiet_step (fail)))
      refine wpQuiet_nil ?_
      rintro wa ⟨ma, hma⟩
      go_wp2_with fail
      go_roundw
      case rel => exact ⟨k + 1, hlt, by go_num, HQ.out.trans ma.le⟩
      case measure => simp [intOf]; omega
    · have HKN : Hid (k = n) := (show k = n by omega)
      have g1 : decide (k < n) = false := by simpa using hlt
      have e0 : gP (ps ++ [tailP]) k = tailP := by rw [HKN.out, HNL.out]; exact gP_end ps tailP
      rw [e0] at c0 c1 c2 c3 c4
      have e1 : off + k * 5 = off + n * 5 := by rw [HKN.out]
      rw [e1] at c0
      have hc0 : wr.cell? ⟨g, off + n * 5, none⟩ = some (.int .i64 (-7)) := c0
      have hn1 : (n : Int) < (n : Int) + 1 := by omega
      clear c0 c1 c2 c3 c4 e0 e1 hlt
      go_wp2_with fail
      go_ret
      exact ⟨rfl, HQ.out⟩
/-- Two boxes of uploads. -/
structure TwoU (w0 : World) (N0 : Nat) (u : UpD) (v v2 : Value) (w : World) : Prop where
  b1 : BoxU w N0 u v
  b2 : BoxU w (N0 + 1) u v2
  q : Q w0 w
theorem TwoU.start (w : World) (u : UpD) (v v2 : Value) : TwoU w w.heap.size u v v2 ((w.alloc (.cells (upL u v).toArray 26)).alloc (.cells (upL u v2).toArray 26)) := by
  have h0 := BoxU.new w u v
  have sA : (w.alloc (.cells (upL u v).toArray 26)).heap.size = w.heap.size + 1 := by simp
  have qA : Q w (w.alloc (.cells (upL u v).toArray 26)) := (Q.refl _).alloc _
  generalize w.alloc (.cells (upL u v).toArray 26) = A at *
  have h1 := BoxU.new A u v2
  have qB : Q A (A.alloc (.cells (upL u v2).toArray 26)) := (Q.refl _).alloc _
  rw [sA] at h1
  exact ⟨h0.q qB, h1, qA.trans qB⟩
theorem TwoU.go {w0 w w' : World} {N0 : Nat} {u : UpD} {v v2 : Value} (h : TwoU w0 N0 u v v2 w) (hq : Q w w') : TwoU w0 N0 u v v2 w' := ⟨h.b1.q hq, h.b2.q hq, h.q.trans hq⟩
theorem BoxU.cs {w : World} {b : Nat} {u : UpD} {v : Value} (h : BoxU w b u v) : ∀ i x, (upL u v)[i]? = some x → w.cell? ⟨b, i, none⟩ = some x := fun i x hx => by
  rw [cell_of_row _ _ _ _ _ _ h]; simpa using hx
theorem BoxV.cs {w : World} {b : Nat} {u : VerD} {v : Value} (h : BoxV w b u v) : ∀ i x, (verL u v)[i]? = some x → w.cell? ⟨b, i, none⟩ = some x := fun i x hx => by
  rw [cell_of_row _ _ _ _ _ _ h]; simpa using hx
set_option maxRecDepth 100000 in
set_option maxHeartbeats 4000000 in
theorem SameUpload_any (u : UpD) (A B : Option Addr) (n cap cap2 : Nat) (ps : List PartD) (w : World) (h : PartsAt w A n ps) (hl : PartsAt w B n ps) (hn : n ≤ 2932031007402) :
    Calls Tryd.prog 11 #[upV u (.slice A n cap), upV u (.slice B n cap2)] w fun e w' => e = .returned (.bool true) ∧ Q w w' := by
  have HNL := Lib.hid hl.1
  have HH := Lib.hid h
  have HL := Lib.hid hl
  clear h hl
  have hT := TwoU.start w u (.slice A n cap) (.slice B n cap2)
  obtain ⟨seq, bucket, key, type, owner, time⟩ := u
  obtain ⟨N0, hN⟩ : ∃ N0, N0 = w.heap.size := ⟨_, rfl⟩
  rw [← hN] at hT
  obtain ⟨W1, hW1⟩ : ∃ W1, W1 = (w.alloc (.cells (upL ⟨seq, bucket, key, type, owner, time⟩ (.slice A n cap)).toArray 26)).alloc (.cells (upL ⟨seq, bucket, key, type, owner, time⟩ (.slice B n cap2)).toArray 26) := ⟨_, rfl⟩
  rw [← hW1] at hT
  have a0 := hT.b1.cs 0 _ rfl
  have a1 := hT.b1.cs 1 _ rfl
  have a2 := hT.b1.cs 2 _ rfl
  have a3 := hT.b1.cs 3 _ rfl
  have a4 := hT.b1.cs 4 _ rfl
  have a5 := hT.b1.cs 5 _ rfl
  have a6 := hT.b1.cs 6 _ rfl
  have b0 := hT.b2.cs 0 _ rfl
  have b1 := hT.b2.cs 1 _ rfl
  have b2 := hT.b2.cs 2 _ rfl
  have b3 := hT.b2.cs 3 _ rfl
  have b4 := hT.b2.cs 4 _ rfl
  have b5 := hT.b2.cs 5 _ rfl
  have b6 := hT.b2.cs 6 _ rfl
  unfold upV upL at *
  simp only at *
  go_enter Tryd.func11, Tryd.ntmps11
  go_upto_region 1 with (fail)
  rw [← hW1, ← hN]
  clear hW1 hN
  go_wp2_with fail
  clear a0 a1 a2 a3 a4 a5 a6 b0 b1 b2 b3 b4 b5 b6
  go_loopw [5] (fun i wr => ∃ k : Nat, k ≤ n ∧ i = .int .i64 (k : Int) ∧ Hid (Q W1 wr)) (fun i _ => n - (intOf i).toNat)
  case atStart => exact ⟨0, by omega, rfl, Q.refl _⟩
  case round =>
    obtain ⟨k, hk, rfl, HQ⟩ := hrel
    have hTr := hT.go HQ.out
    have a6 := hTr.b1.c6
    have b6 := hTr.b2.c6
    have ka6 : ∀ m : QW wr, m.val.cell? ⟨N0, 6, none⟩ = some (.slice A n cap) := fun m => m.cell a6
    have kb6 : ∀ m : QW wr, m.val.cell? ⟨N0 + 1, 6, none⟩ = some (.slice B n cap2) := fun m => m.cell b6
    by_cases hlt : k < n
    · have g1 : decide (k < n) = true := by simpa using hlt
      obtain ⟨g, off, rfl, c0, c1, c2, c3, c4⟩ := (HH.out.q hTr.q).at hlt
      obtain ⟨g', off', rfl, d0, d1, d2, d3, d4⟩ := (HL.out.q hTr.q).at hlt
      have kc0 : ∀ m : QW wr, m.val.cell? ⟨g, off + k * 5, none⟩ = some (.int .i64 (gP ps k).num) := fun m => m.cell c0
      have kc1 : ∀ m : QW wr, m.val.cell? ⟨g, off + k * 5 + 1, none⟩ = some (.int .i64 (gP ps k).size) := fun m => m.cell c1
      have kc2 : ∀ m : QW wr, m.val.cell? ⟨g, off + k * 5 + 2, none⟩ = some (.int .i64 (gP ps k).time) := fun m => m.cell c2
      have kc3 : ∀ m : QW wr, m.val.cell? ⟨g, off + k * 5 + 3, none⟩ = some (.string ⟨(gP ps k).tag.toArray⟩) := fun m => m.cell c3
      have kc4 : ∀ m : QW wr, m.val.cell? ⟨g, off + k * 5 + 4, none⟩ = some (.int .i64 (gP ps k).blob) := fun m => m.cell c4
      have kd0 : ∀ m : QW wr, m.val.cell? ⟨g', off' + k * 5, none⟩ = some (.int .i64 (gP ps k).num) := fun m => m.cell d0
      have kd1 : ∀ m : QW wr, m.val.cell? ⟨g', off' + k * 5 + 1, none⟩ = some (.int .i64 (gP ps k).size) := fun m => m.cell d1
      have kd2 : ∀ m : QW wr, m.val.cell? ⟨g', off' + k * 5 + 2, none⟩ = some (.int .i64 (gP ps k).time) := fun m => m.cell d2
      have kd3 : ∀ m : QW wr, m.val.cell? ⟨g', off' + k * 5 + 3, none⟩ = some (.string ⟨(gP ps k).tag.toArray⟩) := fun m => m.cell d3
      have kd4 : ∀ m : QW wr, m.val.cell? ⟨g', off' + k * 5 + 4, none⟩ = some (.int .i64 (gP ps k).blob) := fun m => m.cell d4
      clear c0 c1 c2 c3 c4 d0 d1 d2 d3 d4
      go_wp2_with fail
      refine wp_region_q (by kernel_rfl) (by kernel_rfl) ?_
      (repeat (go_big_quiet_step (fail)))
      refine wpQuiet_nil ?_
      rintro wa ⟨ma, hma⟩
      go_wp2_with fail
      go_roundw
      case rel => exact ⟨k + 1, hlt, by go_num, HQ.out.trans ma.le⟩
      case measure => simp [intOf]; omega
    · have g1 : decide (k < n) = false := by simpa using hlt
      go_wp2_with fail
      go_ret
      exact ⟨rfl, hTr.q⟩
/-- Two boxes of versions. -/
structure TwoV (w0 : World) (N0 : Nat) (u : VerD) (v v2 : Value) (w : World) : Prop where
  b1 : BoxV w N0 u v
  b2 : BoxV w (N0 + 1) u v2
  q : Q w0 w
theorem TwoV.start (w : World) (u : VerD) (v v2 : Value) : TwoV w w.heap.size u v v2 ((w.alloc (.cells (verL u v).toArray 37)).alloc (.cells (verL u v2).toArray 37)) := by
  have h0 := BoxV.new w u v
  have sA : (w.alloc (.cells (verL u v).toArray 37)).heap.size = w.heap.size + 1 := by simp
  have qA : Q w (w.alloc (.cells (verL u v).toArray 37)) := (Q.refl _).alloc _
  generalize w.alloc (.cells (verL u v).toArray 37) = A at *
  have h1 := BoxV.new A u v2
  have qB : Q A (A.alloc (.cells (verL u v2).toArray 37)) := (Q.refl _).alloc _
  rw [sA] at h1
  exact ⟨h0.q qB, h1, qA.trans qB⟩
theorem TwoV.go {w0 w w' : World} {N0 : Nat} {u : VerD} {v v2 : Value} (h : TwoV w0 N0 u v v2 w) (hq : Q w w') : TwoV w0 N0 u v v2 w' := ⟨h.b1.q hq, h.b2.q hq, h.q.trans hq⟩
set_option maxRecDepth 100000 in
set_option maxHeartbeats 4000000 in
theorem SameVersion_any (u : VerD) (A B : Option Addr) (n cap cap2 : Nat) (zs : List Int) (w : World) (h : NumsAt w A n zs) (hl : NumsAt w B n zs) (hn : n ≤ 2932031007402) :
    Calls Tryd.prog 18 #[verV u (.slice A n cap), verV u (.slice B n cap2)] w fun e w' => e = .returned (.bool true) ∧ Q w w' := by
  have HNL := Lib.hid hl.1
  have HH := Lib.hid h
  have HL := Lib.hid hl
  clear h hl
  have hT := TwoV.start w u (.slice A n cap) (.slice B n cap2)
  obtain ⟨seq, null, marker, tag, type, size, time⟩ := u
  obtain ⟨N0, hN⟩ : ∃ N0, N0 = w.heap.size := ⟨_, rfl⟩
  rw [← hN] at hT
  obtain ⟨W1, hW1⟩ : ∃ W1, W1 = (w.alloc (.cells (verL ⟨seq, null, marker, tag, type, size, time⟩ (.slice A n cap)).toArray 37)).alloc (.cells (verL ⟨seq, null, marker, tag, type, size, time⟩ (.slice B n cap2)).toArray 37) := ⟨_, rfl⟩
  rw [← hW1] at hT
  have a0 := hT.b1.cs 0 _ rfl
  have a1 := hT.b1.cs 1 _ rfl
  have a2 := hT.b1.cs 2 _ rfl
  have a3 := hT.b1.cs 3 _ rfl
  have a4 := hT.b1.cs 4 _ rfl
  have a5 := hT.b1.cs 5 _ rfl
  have a6 := hT.b1.cs 6 _ rfl
  have a7 := hT.b1.cs 7 _ rfl
  have b0 := hT.b2.cs 0 _ rfl
  have b1 := hT.b2.cs 1 _ rfl
  have b2 := hT.b2.cs 2 _ rfl
  have b3 := hT.b2.cs 3 _ rfl
  have b4 := hT.b2.cs 4 _ rfl
  have b5 := hT.b2.cs 5 _ rfl
  have b6 := hT.b2.cs 6 _ rfl
  have b7 := hT.b2.cs 7 _ rfl
  unfold verV verL at *
  simp only at *
  go_enter Tryd.func18, Tryd.ntmps18
  go_upto_region 1 with (fail)
  rw [← hW1, ← hN]
  clear hW1 hN
  go_wp2_with fail
  clear a0 a1 a2 a3 a4 a5 a6 a7 b0 b1 b2 b3 b4 b5 b6 b7
  go_loopw [5] (fun i wr => ∃ k : Nat, k ≤ n ∧ i = .int .i64 (k : Int) ∧ Hid (Q W1 wr)) (fun i _ => n - (intOf i).toNat)
  case atStart => exact ⟨0, by omega, rfl, Q.refl _⟩
  case round =>
    obtain ⟨k, hk, rfl, HQ⟩ := hrel
    have hTr := hT.go HQ.out
    have a7 := hTr.b1.c7
    have b7 := hTr.b2.c7
    have ka7 : ∀ m : QW wr, m.val.cell? ⟨N0, 7, none⟩ = some (.slice A n cap) := fun m => m.cell a7
    have kb7 : ∀ m : QW wr, m.val.cell? ⟨N0 + 1, 7, none⟩ = some (.slice B n cap2) := fun m => m.cell b7
    by_cases hlt : k < n
    · have g1 : decide (k < n) = true := by simpa using hlt
      obtain ⟨g, rfl, hg, hc⟩ := (HH.out.q hTr.q).2 (by omega)
      obtain ⟨g', rfl, hg', hc'⟩ := (HL.out.q hTr.q).2 (by omega)
      have hkz : k < zs.length := by rw [← HNL.out]; exact hlt
      obtain ⟨z, hz⟩ : ∃ z, z = zs[k] := ⟨_, rfl⟩
      have c0 := hc k hkz
      have c0' := hc' k hkz
      rw [← hz] at c0 c0'
      have kc : ∀ m : QW wr, m.val.cell? ⟨g, k, none⟩ = some (.int .i64 z) := fun m => m.cell c0
      have kc' : ∀ m : QW wr, m.val.cell? ⟨g', k, none⟩ = some (.int .i64 z) := fun m => m.cell c0'
      clear hc hc' c0 c0' hz
      go_wp2_with fail
      refine wp_region_q (by kernel_rfl) (by kernel_rfl) ?_
      (repeat (go_big_quiet_step (fail)))
      refine wpQuiet_nil ?_
      rintro wa ⟨ma, hma⟩
      go_wp2_with fail
      go_roundw
      case rel => exact ⟨k + 1, hlt, by go_num, HQ.out.trans ma.le⟩
      case measure => simp [intOf]; omega
    · have g1 : decide (k < n) = false := by simpa using hlt
      go_wp2_with fail
      go_ret
      exact ⟨rfl, hTr.q⟩
end Go.Proofs.YtbhgekhcpagkoaaDoor
/- The chapter's examples, reckoned. -/
set_option linter.unusedVariables false
set_option linter.unusedSimpArgs false
namespace Go.Proofs.YtbhgekhcpagkoaaDoor
open Go Go.RowKit
def tagE : List UInt8 := [100, 52, 49, 100, 56, 99, 100, 57, 56, 102, 48, 48, 98, 50, 48, 52, 101, 57, 56, 48, 48, 57, 57, 56, 101, 99, 102, 56, 52, 50, 55, 101]
def exP (n s : Int) : PartD := ⟨n, s, 0, tagE, 1⟩
theorem ex_etagB : etagB [exP 1 0] = true := by decide +kernel
theorem ex_etagL : etagL [exP 1 0] = [53, 57, 97, 100, 98, 50, 52, 101, 102, 51, 99, 100, 98, 101, 48, 50, 57, 55, 102, 48, 53, 98, 51, 57, 53, 56, 50, 55, 52, 53, 51, 102, 45, 49] := by decide +kernel
theorem ex_sum : sumB tagE = true := by decide +kernel
theorem ex_may (n s : Int) (h : 1 ≤ n ∧ n ≤ 20) (h2 : 0 ≤ s ∧ s ≤ 8000) : mayB (exP n s) = true := by
  unfold mayB
  have : (exP n s).tag = tagE := rfl
  rw [this, ex_sum]
  simp [exP, h.1, h.2, h2.1, h2.2]
theorem ex_right : rightB [exP 1 15, exP 2 3] = true := by
  unfold rightB
  simp only [List.all_cons, List.all_nil, ex_may 1 15 (by omega) (by omega), ex_may 2 3 (by omega) (by omega), Bool.and_true]
  decide +kernel
theorem ex_c1 : compE [exP 1 15, exP 2 3] [exP 1 15, exP 2 3] = 88 := by unfold compE; rw [ex_right]; decide +kernel
theorem ex_c2 : compE [exP 1 15, exP 2 3] [exP 2 3, exP 1 15] = 87 := by unfold compE; rw [ex_right]; decide +kernel
theorem ex_c3 : compE [exP 1 15, exP 2 3] [exP 2 0] = 0 := by unfold compE; rw [ex_right]; decide +kernel
theorem ex_pick : pickL [exP 1 15, exP 2 3] [exP 2 0] = [exP 2 3] := by kernel_rfl
theorem ex_page : pageL [exP 1 15, exP 2 3] 1 1 = [exP 2 3] := by kernel_rfl
theorem ex_more : moreB [exP 1 15, exP 2 3] 1 1 = false := by kernel_rfl
theorem ex_put : putL [exP 1 15, exP 2 3] (exP 1 16) = [exP 1 16, exP 2 3] := by kernel_rfl
theorem PartsAt.new (w : World) (ps : List PartD) : PartsAt (w.alloc (.cells (cellsP ps).toArray 31)) (some ⟨w.heap.size, 0, none⟩) ps.length ps :=
  ⟨rfl, fun _ => ⟨w.heap.size, 0, rfl, by simp, fun j hj i v hv => by
    rw [cell_of_row _ _ _ _ _ _ (MapKept.heap_alloc w _).1, Nat.zero_add]
    have hi : i < 5 := by have := (List.getElem?_eq_some_iff.1 hv).1; rw [partL_len] at this; exact this
    have e := cellsP_at ps j hj i hi
    rw [hv] at e
    simpa using e⟩⟩
theorem ex_ok (l : List PartD) (h : ∀ p ∈ l, p.tag = tagE) : OkP l := fun p hp => by rw [h p hp]; decide
set_option maxHeartbeats 1000000 in
theorem of_any (n s : Int) (w : World) : Calls Tryd.prog 22 #[.int .i64 n, .int .i64 s] w fun e w' => e = .returned (partV (exP n s)) ∧ Q w w' := by
  have hb := BoxP.new w (⟨0, 0, 0, [], 0⟩ : PartD)
  have hq := (Q.refl w).alloc (.cells (partL (⟨0, 0, 0, [], 0⟩ : PartD)).toArray 31)
  obtain ⟨W1, hW1⟩ : ∃ W, w.alloc (.cells (partL (⟨0, 0, 0, [], 0⟩ : PartD)).toArray 31) = W := ⟨_, rfl⟩
  obtain ⟨N0, hN⟩ : ∃ N, w.heap.size = N := ⟨_, rfl⟩
  rw [hW1, hN] at hb
  rw [hW1] at hq
  have hW2 : w.alloc (.cells #[.int .i64 0, .int .i64 0, .int .i64 0, .string ⟨#[]⟩, .int .i64 0] 31) = W1 := hW1
  go_enter Tryd.func22, Tryd.ntmps22
  go_upto_region 1 with (fail)
  clear hW1 hW2
  go_wp2_with (refine wpList_store_row rfl 31 _ _ rfl N0 (partL (exP n s)).toArray (by rfl) (by rfl) 31 _ hb infoP rfl (partL_one _) ?_)
  have h1 : BoxP (W1.setRow N0 (partL (exP n s)).toArray) N0 (exP n s) := setRow_heap W1 _ _ _ _ _ hb
  have h2 : Q w (W1.setRow N0 (partL (exP n s)).toArray) := hq.below (below_setRow (Below.refl _ _) (by omega) _)
  have HH := Lib.hid (And.intro h1 h2)
  clear h1 h2
  go_wp2_with fail
  exact bodyPost_ret (results_cell_row rfl _ _ N0 31 _ (0, 0) _ (by rfl) HH.out.1 Tryd.underlying31 rfl infoP) rfl ⟨rfl, HH.out.2⟩
end Go.Proofs.YtbhgekhcpagkoaaDoor
/- Complete: what it reaches. -/
set_option linter.unusedVariables false
set_option linter.unusedSimpArgs false
namespace Go.Proofs.YtbhgekhcpagkoaaDoor
open Go Go.RowKit
/-- The boxes of Complete: the upload, the result. -/
structure CompB (w0 : World) (N0 : Nat) (u : UpD) (v : Value) (w : World) : Prop where
  bu : BoxU w N0 u v
  br : BoxV w (N0 + 1) zV (.slice none 0 0)
  q : Q w0 w
  sz : w0.heap.size = N0
theorem CompB.start (w : World) (u : UpD) (v : Value) (w1 : World) (hq : Q ((w.alloc (.cells (upL u v).toArray 26)).alloc (.cells (verL zV (.slice none 0 0)).toArray 37)) w1) : CompB w w.heap.size u v w1 := by
  have h0 := BoxU.new w u v
  generalize hA : w.alloc (.cells (upL u v).toArray 26) = A at *
  have h1 := BoxV.new A zV (.slice none 0 0)
  have sA : A.heap.size = w.heap.size + 1 := by rw [← hA]; simp
  have qA : Q w A := by rw [← hA]; exact (Q.refl _).alloc _
  have qB : Q A (A.alloc (.cells (verL zV (.slice none 0 0)).toArray 37)) := (Q.refl _).alloc _
  generalize A.alloc (.cells (verL zV (.slice none 0 0)).toArray 37) = B at *
  rw [sA] at h1
  exact ⟨(h0.q qB).q hq, h1.q hq, (qA.trans qB).trans hq, rfl⟩
theorem CompB.go {w0 w w' : World} {N0 : Nat} {u : UpD} {v : Value} (h : CompB w0 N0 u v w) (hq : Q w w') : CompB w0 N0 u v w' := ⟨h.bu.q hq, h.br.q hq, h.q.trans hq, h.sz⟩
theorem CompB.put {w0 w : World} {N0 : Nat} {u : UpD} {v : Value} (h : CompB w0 N0 u v w) (u3 : VerD) (v3 : Value) : BoxV (w.setRow (N0 + 1) (verL u3 v3).toArray) (N0 + 1) u3 v3 ∧ Q w0 (w.setRow (N0 + 1) (verL u3 v3).toArray) :=
  ⟨setRow_heap w _ _ _ _ _ h.br, h.q.below (below_setRow (Below.refl _ _) (by have := h.sz; omega) _)⟩
set_option maxRecDepth 100000 in
set_option maxHeartbeats 8000000 in
theorem Complete_any (u : UpD) (A B : Option Addr) (n cap m cap2 : Nat) (ps l : List PartD) (now : Int) (w : World) (h : PartsAt w A n ps) (hl : PartsAt w B m l) (hok : OkP ps) (ht : Tab w) (hn : n ≤ 9223372036854775807) (hm : m ≤ 9223372036854775807) (hcap : n ≤ cap ∧ cap ≤ 9223372036854775807) :
    Calls Tryd.prog 12 #[upV u (.slice A n cap), .slice B m cap2, .int .i64 now] w (CompPost u.type ps l now w) := by
  have hright := Lib.hid (fun w h => right_any A n cap ps w h hok hn)
  have hrise := Lib.hid (fun w h => rise_any B m cap2 l w h hm)
  have hml := Lib.hid hl.1
  have hnl := Lib.hid h.1
  obtain ⟨seq, bucket, key, type, owner, time⟩ := u
  unfold upV upL
  simp only
  go_enter Tryd.func12, Tryd.ntmps12
  go_wp2_with fail
  refine (hright.out _ (h.q (((Q.refl w).alloc _).alloc _))).mono ?_
  rintro e w1 ⟨rfl, hq⟩
  have hB := CompB.start w ⟨seq, bucket, key, type, owner, time⟩ (.slice A n cap) w1 hq
  have hN0 : w.heap.size = w.heap.size := rfl
  obtain ⟨N0, hN⟩ : ∃ N0, N0 = w.heap.size := ⟨_, rfl⟩
  rw [← hN] at hB ⊢
  clear hq hright hN0 hN
  have HH := Lib.hid h
  have HL := Lib.hid hl
  clear h hl
  cases hr : rightB ps with
  | false =>
    have HE : Hid (compE ps l = 1) := (by unfold compE; rw [hr]; rfl : compE ps l = 1)
    go_wp2_with (refine wpList_store_row rfl 37 _ _ rfl (N0 + 1) (verL zV (.slice none 0 0)).toArray (by rfl) (by rfl) 37 _ (hB).br infoV rfl (verL_one _ _ rfl) ?_)
    have hput := (hB).put zV (.slice none 0 0)
    exact bodyPost_ret (results_ver rfl (by rfl) hput.1) rfl ⟨.inr ⟨by rw [(HE).out]; decide, by rw [(HE).out]; rfl⟩, hput.2⟩
  | true =>
    by_cases hm1 : m < 1
    · have g1 : decide ((m : Int) < 1) = true := by simp; omega
      have HE : Hid (compE ps l = 89) := (by unfold compE; rw [hr, if_neg (by simp), if_pos (.inl (by rw [← hml.out]; exact hm1))] : compE ps l = 89)
      clear hm1
      go_wp2_with (refine wpList_store_row rfl 37 _ _ rfl (N0 + 1) (verL zV (.slice none 0 0)).toArray (by rfl) (by rfl) 37 _ (hB).br infoV rfl (verL_one _ _ rfl) ?_)
      have hput := (hB).put zV (.slice none 0 0)
      exact bodyPost_ret (results_ver rfl (by rfl) hput.1) rfl ⟨.inr ⟨by rw [(HE).out]; decide, by rw [(HE).out]; rfl⟩, hput.2⟩
    · by_cases hm20 : 20 < m
      · have g1 : decide ((m : Int) < 1) = false := by simp; omega
        have g2 : decide ((20 : Int) < (m : Int)) = true := by simp; omega
        have HE : Hid (compE ps l = 89) := (by unfold compE; rw [hr, if_neg (by simp), if_pos (.inr (by rw [← hml.out]; exact hm20))] : compE ps l = 89)
        clear hm1 hm20
        go_wp2_with (refine wpList_store_row rfl 37 _ _ rfl (N0 + 1) (verL zV (.slice none 0 0)).toArray (by rfl) (by rfl) 37 _ (hB).br infoV rfl (verL_one _ _ rfl) ?_)
        have hput := (hB).put zV (.slice none 0 0)
        exact bodyPost_ret (results_ver rfl (by rfl) hput.1) rfl ⟨.inr ⟨by rw [(HE).out]; decide, by rw [(HE).out]; rfl⟩, hput.2⟩
      · have g1 : decide ((m : Int) < 1) = false := by simp; omega
        have g2 : decide ((20 : Int) < (m : Int)) = false := by simp; omega
        have hmm : ¬ (l.length < 1 ∨ 20 < l.length) := by rw [← hml.out]; omega
        go_wp2_with fail
        refine (hrise.out _ (HL.out.q hB.q)).mono ?_
        rintro e w2 ⟨rfl, hq2⟩
        have hB := hB.go hq2
        clear hq2 hrise
        cases hs : riseB l with
        | false =>
          have HE : Hid (compE ps l = 87) := (by unfold compE; rw [hr, if_neg (by simp), if_neg hmm, hs]; rfl : compE ps l = 87)
          clear hm1 hm20 hmm
          go_wp2_with (refine wpList_store_row rfl 37 _ _ rfl (N0 + 1) (verL zV (.slice none 0 0)).toArray (by rfl) (by rfl) 37 _ (hB).br infoV rfl (verL_one _ _ rfl) ?_)
          have hput := (hB).put zV (.slice none 0 0)
          exact bodyPost_ret (results_ver rfl (by rfl) hput.1) rfl ⟨.inr ⟨by rw [(HE).out]; decide, by rw [(HE).out]; rfl⟩, hput.2⟩
        | true =>
          have HMM := Lib.hid (And.intro hmm hs)
          have HR := Lib.hid hr
          have hm20' : m ≤ 20 := by omega
          have hm1' : 1 ≤ m := by omega
          clear hmm hm1 hm20 hs hr g1 g2
          go_wp2_with fail
          go_loopw [8, 38] (fun v i wr => ∃ k : Nat, k ≤ m ∧ i = .int .i64 (k : Int) ∧ Hid (OwnP w2 wr v (pickL ps (l.take k))) ∧ Hid ((pickL ps (l.take k)).length = k) ∧ Hid (∀ j, j < k → (findP ps (gP l j)).isSome = true) ∧ Hid (Q w2 wr)) (fun _ i _ => m - (intOf i).toNat)
          case atStart => exact ⟨0, by omega, rfl, by rw [List.take_zero]; exact OwnP.nil _ _, rfl, fun j hj => by omega, Q.refl _⟩
          case round =>
            obtain ⟨k, hk, rfl, HO, HL8, HS, HQ2⟩ := hrel
            have hB2 := hB
            have hB := hB2.go HQ2.out
            by_cases hlt : k < m
            · have hkl : k < l.length := by rw [← hml.out]; exact hlt
              have g1 : decide (k < m) = true := by simpa using hlt
              obtain ⟨g, off, rfl, c0, c1, c2, c3, c4⟩ := (HL.out.q hB.q).at hlt
              have hqb : Q wr (wr.alloc (.cells (partL (gP l k)).toArray 31)) := (Q.refl wr).alloc _
              have HOb := Lib.hid (HO.out.q hqb)
              have hBb := hB.go hqb
              have HQb := Lib.hid (HQ2.out.trans hqb)
              clear hqb
              have hbx := BoxP.new wr (gP l k)
              go_upto_region 11 with (fail)
              obtain ⟨Wb, hWb⟩ : ∃ Wb, wr.alloc (.cells #[.int .i64 (gP l k).num, .int .i64 (gP l k).size, .int .i64 (gP l k).time, .string ⟨(gP l k).tag.toArray⟩, .int .i64 (gP l k).blob] 31) = Wb := ⟨_, rfl⟩
              have hWb2 : wr.alloc (.cells (partL (gP l k)).toArray 31) = Wb := hWb
              rw [hWb]
              rw [hWb2] at HOb hBb hbx HQb
              clear hWb hWb2 c0 c1 c2 c3 c4
              have hB := hBb
              clear hBb HO
              have cu := hB.bu.c6
              have hidx := index_any A n cap wr.heap.size ps (gP l k) Wb (HH.out.q hB.q) hbx hn
              rcases idx_or ps (gP l k) with ⟨K, hK, hZ, hF⟩ | ⟨hZ, hF⟩
              · rw [hZ] at hidx
                have HF := Lib.hid hF
                clear hF hZ hbx
                go_wp2_with fail
                refine hidx.mono ?_
                rintro e w3 ⟨rfl, hq3⟩
                have HO3 := Lib.hid (HOb.out.q hq3)
                have hB := hB.go hq3
                have HQ3 := Lib.hid (HQb.out.trans hq3)
                clear hq3 hidx HOb cu
                have gK : decide ((K : Int) < 0) = false := by simp
                have cu := hB.bu.c6
                have hKn : K < n := by rw [hnl.out]; exact hK
                obtain ⟨g5, off5, rfl, d0, d1, d2, d3, d4⟩ := (HH.out.q hB.q).at hKn
                have HPS := Lib.hid (pick_succ (ps := ps) hkl HF.out)
                have HLS : Hid (((pickL ps (l.take (k + 1))).length) = k + 1) := (by rw [HPS.out, List.length_append, HL8.out]; rfl : ((pickL ps (l.take (k + 1))).length) = k + 1)
                go_wp2_with (at_builtin; refine wpList_append_p rfl (.tmp 49) (.tmp 55) rfl w2 w3 _ (pickL ps (l.take k)) (gP ps K) (by rfl) HO3.out (by rfl) HQ3.out (by rw [HL8.out]; omega) ?_; intro v5 w5 ho5 hq5 _; have HO5 := Lib.hid ho5; have HQ5 := Lib.hid hq5; clear ho5 hq5)
                go_roundw
                case rel =>
                  refine ⟨k + 1, hlt, by go_num, by rw [HPS.out]; exact HO5.out, HLS, fun j hj => ?_, HQ5.out⟩
                  by_cases e : j = k
                  · subst e; rw [HF.out]; rfl
                  · exact HS.out j (by omega)
                case measure => simp [intOf]; omega
              · rw [hZ] at hidx
                have HE : Hid (compE ps l = 86) := (by unfold compE; rw [HR.out, if_neg (by simp), if_neg HMM.out.1, HMM.out.2, if_neg (by simp), has_no hkl hF]; rfl : compE ps l = 86)
                clear hF hZ hbx
                go_wp2_with fail
                refine hidx.mono ?_
                rintro e w3 ⟨rfl, hq3⟩
                have hB := hB.go hq3
                clear hq3 hidx HOb cu
                go_wp2_with (refine wpList_store_row rfl 37 _ _ rfl (N0 + 1) (verL zV (.slice none 0 0)).toArray (by rfl) (by rfl) 37 _ (hB).br infoV rfl (verL_one _ _ rfl) ?_)
                have hput := (hB).put zV (.slice none 0 0)
                exact bodyPost_ret (results_ver rfl (by rfl) hput.1) rfl ⟨.inr ⟨by rw [(HE).out]; decide, by rw [(HE).out]; rfl⟩, hput.2⟩
            · rename World => wa
              have HKN : Hid (k = m) := (show k = m by omega)
              have g1 : decide (k < m) = false := by simpa using hlt
              have e1 : l.take k = l := List.take_of_length_le (by have := HKN.out; have := hml.out; omega)
              rw [e1] at HO HL8
              have HSY := Lib.hid (has_yes (ps := ps) (l := l) (fun j hj => HS.out j (by have := HKN.out; have := hml.out; omega)))
              obtain ⟨of, hof⟩ : ∃ of, of = pickL ps l := ⟨_, rfl⟩
              have HOF := Lib.hid hof
              rw [← hof] at HO HL8
              have hom : of.length = m := by rw [HL8.out]; exact HKN.out
              have hall : ∀ p ∈ of, 0 ≤ p.size ∧ p.size ≤ 8000 := fun p hp => by
                have := may_size (right_mem HR.out (pick_mem (by rw [← hof]; exact hp)))
                exact ⟨this.1, this.2.1⟩
              have HALL := Lib.hid hall
              have HET := Lib.hid (etag_of (ps := ps) (l := l) HR.out (by rw [← hof]; omega))
              have hoko : OkP of := fun p hp => hok p (pick_mem (by rw [← hof]; exact hp))
              obtain ⟨A8, c8, hv8, hl8, hc8, hP8, hown8⟩ := HO.out.parts
              subst hv8
              rw [hom] at hP8 hl8 ⊢
              have HP8 := Lib.hid hP8
              have HOM := Lib.hid hom
              have HOK := Lib.hid hoko
              have ct : wa.cell? ⟨N0, 3, none⟩ = some (.string ⟨type.toArray⟩) := by rw [cell_of_row _ _ _ _ _ _ hB.bu]; rfl
              obtain ⟨b12, hb12⟩ : ∃ b, b = wa.heap.size := ⟨_, rfl⟩
              have hBV : BoxV (wa.alloc (.cells (verL ⟨0, false, false, [], type, 0, now⟩ (.slice none 0 0)).toArray 37)) b12 ⟨0, false, false, [], type, 0, now⟩ (.slice none 0 0) := by rw [hb12]; exact BoxV.new _ _ _
              have hq12 : Q wa (wa.alloc (.cells (verL ⟨0, false, false, [], type, 0, now⟩ (.slice none 0 0)).toArray 37)) := (Q.refl wa).alloc _
              clear hP8 hown8 hall HO HL8 hof hom hoko e1
              go_upto_region 17 with (fail)
              obtain ⟨W12, hW12⟩ : ∃ Wb, wa.alloc (.cells #[.int .i64 0, .bool false, .bool false, .string ⟨#[]⟩, .string ⟨type.toArray⟩, .int .i64 0, .int .i64 now, .slice none 0 0] 37) = Wb := ⟨_, rfl⟩
              have hW12b : wa.alloc (.cells (verL ⟨0, false, false, [], type, 0, now⟩ (.slice none 0 0)).toArray 37) = W12 := hW12
              rw [hW12]
              rw [hW12b] at hBV hq12
              try rw [← hb12]
              have HB12 := Lib.hid hb12
              clear hW12 hW12b ct hb12
              go_wp2_with fail
              go_loopw [64] (fun i wq => ∃ j : Nat, j ≤ m ∧ i = .int .i64 (j : Int) ∧ ∃ vb, Hid (BoxV wq b12 ⟨0, false, false, [], type, sizeS (of.take j), now⟩ vb) ∧ Hid (OwnI wa wq vb ((of.take j).map (·.blob))) ∧ Hid (∀ q, vb.ownBlock = some q → q ≠ b12) ∧ Hid (∀ i, i < j → i + 1 < m → ¬ (gP of i).size < 16) ∧ Hid (Q wa wq)) (fun i _ => m - (intOf i).toNat)
              case atStart => exact ⟨0, by omega, rfl, .slice none 0 0, by rw [List.take_zero]; exact hBV, by rw [List.take_zero]; exact OwnI.nil _ _, fun q hq => (by cases hq), fun i hi => by omega, hq12⟩
              case round =>
                clear hBV hq12
                obtain ⟨j, hj, rfl, vb, HBV, HOI, HNE, HSM, HQ⟩ := hrel
                have hBq := hB.go HQ.out
                by_cases hlt2 : j < m
                · have hjl : j < of.length := by rw [HOM.out]; exact hlt2
                  have g3 : decide (j < m) = true := by simpa using hlt2
                  obtain ⟨g, off, rfl, c0, c1, c2, c3, c4⟩ := (HP8.out.q HQ.out).at hlt2
                  have hqb : Q wr (wr.alloc (.cells (partL (gP of j)).toArray 31)) := (Q.refl wr).alloc _
                  have HBb := Lib.hid (HBV.out.q hqb)
                  have HOb := Lib.hid (HOI.out.q hqb)
                  have HQb := Lib.hid (HQ.out.trans hqb)
                  have hBb := hBq.go hqb
                  clear hqb
                  have hbx := BoxP.new wr (gP of j)
                  go_upto_region 20 with (fail)
                  obtain ⟨Wb, hWb⟩ : ∃ Wb, wr.alloc (.cells #[.int .i64 (gP of j).num, .int .i64 (gP of j).size, .int .i64 (gP of j).time, .string ⟨(gP of j).tag.toArray⟩, .int .i64 (gP of j).blob] 31) = Wb := ⟨_, rfl⟩
                  have hWb2 : wr.alloc (.cells (partL (gP of j)).toArray 31) = Wb := hWb
                  rw [hWb]
                  rw [hWb2] at HBb HOb HQb hBb hbx
                  obtain ⟨b14, hb14⟩ : ∃ b, b = wr.heap.size := ⟨_, rfl⟩
                  have hne : b14 ≠ b12 := by have := HBV.out.lt; omega
                  rw [← hb14] at hbx ⊢
                  clear hWb hWb2 c0 c1 c2 c3 c4 hb14
                  have d1 := hbx.c1
                  have d4 := hbx.c4
                  by_cases hs : (gP of j).size < 16 ∧ j + 1 < m
                  · have g4 : decide ((gP of j).size < 16) = true := by simpa using hs.1
                    have g5 : decide ((j : Int) < (m : Int) - 1) = true := by simp; omega
                    have HE : Hid (compE ps l = 88) := (by unfold compE; rw [HR.out, if_neg (by simp), if_neg HMM.out.1, HMM.out.2, if_neg (by simp), HSY.out, if_neg (by simp), ← HOF.out, if_pos (small_yes (by rw [HOM.out]; exact hs.2) hs.1)] : compE ps l = 88)
                    clear hs
                    go_wp2_with (refine wpList_store_row rfl 37 _ _ rfl (N0 + 1) (verL zV (.slice none 0 0)).toArray (by rfl) (by rfl) 37 _ (hBb).br infoV rfl (verL_one _ _ rfl) ?_)
                    have hput := (hBb).put zV (.slice none 0 0)
                    exact bodyPost_ret (results_ver rfl (by rfl) hput.1) rfl ⟨.inr ⟨by rw [(HE).out]; decide, by rw [(HE).out]; rfl⟩, hput.2⟩
                  · have HSN := Lib.hid hs
                    obtain ⟨S, hS⟩ : ∃ S, S = sizeS (of.take j) := ⟨_, rfl⟩
                    have hsb := size_bound HALL.out j
                    have hsj : 0 ≤ (gP of j).size ∧ (gP of j).size ≤ 8000 := by rw [gP_eq of j hjl]; exact HALL.out _ (List.getElem_mem hjl)
                    rw [← hS] at HBb hsb
                    have HSS : Hid (sizeS (of.take (j + 1)) = S + (gP of j).size) := (by rw [hS]; exact size_succ hjl : sizeS (of.take (j + 1)) = S + (gP of j).size)
                    have HBS := Lib.hid (blob_succ hjl)
                    have hlb : ((of.take j).map (·.blob)).length = j := by rw [List.length_map, List.length_take]; omega
                    obtain ⟨hsb1, hsb2⟩ := hsb
                    obtain ⟨hsj1, hsj2⟩ := hsj
                    have hlow : -9223372036854775808 ≤ S + (gP of j).size ∧ S + (gP of j).size ≤ 9223372036854775807 := by omega
                    have e5 := HBb.out.c5
                    have f5 := HBb.out.fz 5
                    clear hS HBV
                    have HBc : Hid (BoxV (Wb.setCell ⟨b12, 5, none⟩ (.int .i64 (S + (gP of j).size))) b12 ⟨0, false, false, [], type, S + (gP of j).size, now⟩ vb) := (HBb.out.set5 (S + (gP of j).size) : BoxV _ b12 ⟨0, false, false, [], type, S + (gP of j).size, now⟩ vb)
                    have HOc := Lib.hid (HOb.out.g (grownBy_setCell6 Wb b12 5 (.int .i64 (S + (gP of j).size))) (fun q hq e => HNE.out q hq (by cases e; rfl)))
                    have hbxc : BoxP (Wb.setCell ⟨b12, 5, none⟩ (.int .i64 (S + (gP of j).size))) b14 (gP of j) := ((grownBy_setCell6 Wb b12 5 (.int .i64 (S + (gP of j).size))).block _ hbx.lt (by simpa using hne)).trans hbx
                    have HQc := Lib.hid (HQb.out.setNew (p := ⟨b12, 5, none⟩) (by have := HB12.out; simp; omega) (.int .i64 (S + (gP of j).size)))
                    by_cases hs1 : (gP of j).size < 16
                    · have g4 : decide ((gP of j).size < 16) = true := by simpa using hs1
                      have g5 : decide ((j : Int) < (m : Int) - 1) = false := by simp; omega
                      clear hs hs1
                      go_upto_region 23 with (fail)
                      obtain ⟨Wc, hWc⟩ : ∃ W, Wb.setCell ⟨b12, 5, none⟩ (.int .i64 (S + (gP of j).size)) = W := ⟨_, rfl⟩
                      rw [hWc] at HBc HOc hbxc HQc ⊢
                      clear hWc d1 d4 e5 f5 HBb HOb HQb hBb hbx
                      have d4 := hbxc.c4
                      have e7 := HBc.out.c7
                      have hb12c := HBc.out.lt
                      have hob : Hid (∀ q, vb.ownBlock = some q → q ≠ b12) := HNE
                      iterate 16 go_step
                      refine wpList_append_i rfl (.tmp 87) (.tmp 90) rfl wa Wc vb ((of.take j).map (·.blob)) (gP of j).blob (by rfl) HOc.out (by rfl) HQc.out (by rw [hlb]; omega) ?_
                      intro v5 w5 ho5 hq5 hg5
                      have HO5 := Lib.hid ho5
                      have HQ5 := Lib.hid hq5
                      have hB5 : BoxV w5 b12 _ vb := (hg5.1.block b12 hb12c (fun e => HNE.out b12 e.symm rfl)).trans HBc.out
                      have f7 := hB5.fz 7
                      have HN5 : Hid (∀ q, v5.ownBlock = some q → q ≠ b12) := (fun q hq => by
                        rcases hg5.2 with h | h
                        · exact HNE.out q (by rw [← h]; exact hq)
                        · have : q = Wc.heap.size + 1 := by rw [h] at hq; cases hq; rfl
                          omega : ∀ q, v5.ownBlock = some q → q ≠ b12)
                      have e75 := hB5.c7
                      have HB6 := Lib.hid (hB5.set7 v5)
                      have HO6 := Lib.hid (HO5.out.g (grownBy_setCell6 w5 b12 7 v5) (fun q hq e => HN5.out q hq (by cases e; rfl)))
                      have HQ6 := Lib.hid (HQ5.out.setNew (p := ⟨b12, 7, none⟩) (by have := HB12.out; simp; omega) v5)
                      obtain ⟨A5, n5, c5, rfl⟩ : ∃ A5 n5 c5, v5 = Value.slice A5 n5 c5 := by obtain ⟨A5, c5, hv, _⟩ := ho5.slice; exact ⟨A5, _, c5, hv⟩
                      clear hg5 hB5 ho5 hq5
                      go_wp2_with fail
                      go_roundw
                      case rel =>
                        refine ⟨j + 1, hlt2, by go_num, .slice A5 n5 c5, by rw [HSS.out]; exact HB6.out, by rw [HBS.out]; exact HO6.out, HN5.out, fun i hi hi2 => ?_, HQ6.out⟩
                        by_cases e : i = j
                        · subst e; exact fun h => HSN.out ⟨h, hi2⟩
                        · exact HSM.out i (by omega) hi2
                      case measure => simp [intOf]; omega
                    · have g4 : decide ((gP of j).size < 16) = false := by simpa using hs1
                      clear hs hs1
                      go_upto_region 23 with (fail)
                      obtain ⟨Wc, hWc⟩ : ∃ W, Wb.setCell ⟨b12, 5, none⟩ (.int .i64 (S + (gP of j).size)) = W := ⟨_, rfl⟩
                      rw [hWc] at HBc HOc hbxc HQc ⊢
                      clear hWc d1 d4 e5 f5 HBb HOb HQb hBb hbx
                      have d4 := hbxc.c4
                      have e7 := HBc.out.c7
                      have hb12c := HBc.out.lt
                      have hob : Hid (∀ q, vb.ownBlock = some q → q ≠ b12) := HNE
                      iterate 16 go_step
                      refine wpList_append_i rfl (.tmp 87) (.tmp 90) rfl wa Wc vb ((of.take j).map (·.blob)) (gP of j).blob (by rfl) HOc.out (by rfl) HQc.out (by rw [hlb]; omega) ?_
                      intro v5 w5 ho5 hq5 hg5
                      have HO5 := Lib.hid ho5
                      have HQ5 := Lib.hid hq5
                      have hB5 : BoxV w5 b12 _ vb := (hg5.1.block b12 hb12c (fun e => HNE.out b12 e.symm rfl)).trans HBc.out
                      have f7 := hB5.fz 7
                      have HN5 : Hid (∀ q, v5.ownBlock = some q → q ≠ b12) := (fun q hq => by
                        rcases hg5.2 with h | h
                        · exact HNE.out q (by rw [← h]; exact hq)
                        · have : q = Wc.heap.size + 1 := by rw [h] at hq; cases hq; rfl
                          omega : ∀ q, v5.ownBlock = some q → q ≠ b12)
                      have e75 := hB5.c7
                      have HB6 := Lib.hid (hB5.set7 v5)
                      have HO6 := Lib.hid (HO5.out.g (grownBy_setCell6 w5 b12 7 v5) (fun q hq e => HN5.out q hq (by cases e; rfl)))
                      have HQ6 := Lib.hid (HQ5.out.setNew (p := ⟨b12, 7, none⟩) (by have := HB12.out; simp; omega) v5)
                      obtain ⟨A5, n5, c5, rfl⟩ : ∃ A5 n5 c5, v5 = Value.slice A5 n5 c5 := by obtain ⟨A5, c5, hv, _⟩ := ho5.slice; exact ⟨A5, _, c5, hv⟩
                      clear hg5 hB5 ho5 hq5
                      go_wp2_with fail
                      go_roundw
                      case rel =>
                        refine ⟨j + 1, hlt2, by go_num, .slice A5 n5 c5, by rw [HSS.out]; exact HB6.out, by rw [HBS.out]; exact HO6.out, HN5.out, fun i hi hi2 => ?_, HQ6.out⟩
                        by_cases e : i = j
                        · subst e; exact fun h => HSN.out ⟨h, hi2⟩
                        · exact HSM.out i (by omega) hi2
                      case measure => simp [intOf]; omega
                · have HJM : Hid (j = m) := (show j = m by omega)
                  have g3 : decide (j < m) = false := by simpa using hlt2
                  have e2 : of.take j = of := List.take_of_length_le (by have := HJM.out; have := HOM.out; omega)
                  rw [e2] at HBV HOI
                  have HBR := Lib.hid hBq.br
                  have hwN : N0 + 1 < b12 := by rw [HB12.out]; exact hB.br.lt
                  have hsm : smallB of = false := small_no (fun i hi => HSM.out i (by have := HJM.out; have := HOM.out; omega) (by have := HOM.out; omega))
                  have HE : Hid (compE ps l = 0) := (by unfold compE; rw [HR.out, if_neg (by simp), if_neg HMM.out.1, HMM.out.2, if_neg (by simp), HSY.out, if_neg (by simp), ← HOF.out, hsm]; rfl : compE ps l = 0)
                  have HT := Lib.hid (fun w h ht => ETag_any A8 m c8 of w h HOK.out ht (by omega))
                  clear hlt2 e2 hsm
                  have hTq := ht.q (hB.q.trans HQ.out)
                  go_wp2_with fail
                  refine (HT.out _ (HP8.out.q HQ.out) hTq).mono ?_
                  clear HT
                  rintro e w6 ⟨h1 | h1, hq6⟩
                  · obtain ⟨_, rfl⟩ := h1
                    have HB6 := Lib.hid (HBV.out.q hq6)
                    have HO6 := Lib.hid (HOI.out.q hq6)
                    have HQ6 := Lib.hid (HQ.out.trans hq6)
                    have HR6 := Lib.hid (hBq.br.q hq6)
                    have f3 := HB6.out.fz 3
                    have e3 : w6.cell? ⟨b12, 3, none⟩ = some (.string ⟨#[]⟩) := by rw [cell_of_row _ _ _ _ _ _ HB6.out]; rfl
                    have HB7 := Lib.hid (HB6.out.set3 (etagL of))
                    have HO7 := Lib.hid (HO6.out.g (grownBy_setCell6 w6 b12 3 (.string ⟨(etagL of).toArray⟩)) (fun q hq e => HNE.out q hq (by cases e; rfl)))
                    have HQ7 := Lib.hid (HQ6.out.setNew (p := ⟨b12, 3, none⟩) (by have := HB12.out; simp; omega) (.string ⟨(etagL of).toArray⟩))
                    have HR7 : Hid (BoxV (w6.setCell ⟨b12, 3, none⟩ (.string ⟨(etagL of).toArray⟩)) (N0 + 1) zV (.slice none 0 0)) := (((grownBy_setCell6 w6 b12 3 (.string ⟨(etagL of).toArray⟩)).block _ HR6.out.lt (by simp; omega)).trans HR6.out : BoxV _ _ _ _)
                    clear hq6 hTq HBV HOI HQ
                    go_upto_region 26 with (fail)
                    obtain ⟨w7, hw7⟩ : ∃ W, w6.setCell ⟨b12, 3, none⟩ (.string ⟨(etagL of).toArray⟩) = W := ⟨_, rfl⟩
                    rw [hw7] at HB7 HO7 HQ7 HR7 ⊢
                    clear hw7 f3 e3 HB6 HO6 HQ6 HR6
                    go_step
                    refine wpList_load_row rfl 37 (.tmp 12) rfl b12 (by rfl) 37 _ (0, 0) _ HB7.out Tryd.underlying37 rfl infoV ?_
                    simp only [Act.put, List.setIfInBounds_toArray, List.set_cons_succ, List.set_cons_zero]
                    refine wpList_store_row rfl 37 (.tmp 6) (.tmp 100) rfl (N0 + 1) (verL ⟨0, false, false, etagL of, type, sizeS of, now⟩ vb).toArray (by rfl) (by rfl) 37 _ HR7.out infoV rfl (verL_one _ _ HO7.out.one) ?_
                    have h1 : BoxV (w7.setRow (N0 + 1) (verL ⟨0, false, false, etagL of, type, sizeS of, now⟩ vb).toArray) (N0 + 1) ⟨0, false, false, etagL of, type, sizeS of, now⟩ vb := setRow_heap w7 _ _ _ _ _ HR7.out
                    have h2 : Q w (w7.setRow (N0 + 1) (verL ⟨0, false, false, etagL of, type, sizeS of, now⟩ vb).toArray) := (hB.q.trans HQ7.out).below (below_setRow (Below.refl _ _) (by have := hB.sz; omega) _)
                    have h3 : OwnI w (w7.setRow (N0 + 1) (verL ⟨0, false, false, etagL of, type, sizeS of, now⟩ vb).toArray) vb (of.map (·.blob)) :=
                      (OwnI.g HO7.out (row := some (N0 + 1)) (w' := w7.setRow (N0 + 1) (verL ⟨0, false, false, etagL of, type, sizeS of, now⟩ vb).toArray) ⟨rfl, rfl, rfl, by simp [World.setRow], fun b _ hb => setRow_other _ _ b _ (fun e => hb (by rw [e]))⟩ (fun b hb e => by have := (HO7.out.block hb).1; have := HB12.out; cases e; omega)).base hB.q.size
                    have HH1 := Lib.hid h1
                    have HH2 := Lib.hid (And.intro h2 h3)
                    clear h1 h2 h3
                    go_wp2_with fail
                    refine bodyPost_ret (results_ver rfl (by rfl) HH1.out) rfl ⟨.inl ⟨HE.out, vb, ?_, ?_⟩, HH2.out.1⟩
                    · rw [← HOF.out]; rfl
                    · rw [← HOF.out]; exact HH2.out.2
                  · exact absurd h1.1 (by rw [HOF.out, HET.out]; simp)
end Go.Proofs.YtbhgekhcpagkoaaDoor
