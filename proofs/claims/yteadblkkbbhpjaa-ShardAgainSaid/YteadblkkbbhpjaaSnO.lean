/- shard.Seal, walked. -/
import Derived.Test.YteadblkkbbhpjaaSnN
import Derived.Deep.RegionHeld3
set_option linter.unusedVariables false
namespace Go.Proofs.Yteadblkkbbhpjaa
open Go Go.RowKit Go.Shelf
attribute [local go_sem] Oper.semAt_some
set_option maxRecDepth 100000 in
set_option maxHeartbeats 4000000 in
theorem Seal_ok (nm l : List UInt8) (w : World) (h1 : nm.length ≤ 220) (h2 : l.length ≤ 10000) :
    Calls Try.prog 13 #[.string ⟨nm.toArray⟩, .string ⟨l.toArray⟩] w fun e w' => e = .returned (.tuple #[.string ⟨(sealL nm l).toArray⟩, .nilIface]) ∧ Q w w' := by
  have l1 : ∀ k, (U32 k).length = 4 := length_U32
  have g1 : decide (220 < (nm.length : Int)) = false := by simp; omega
  have g2 : decide (10000 < (l.length : Int)) = false := by simp; omega
  refine (callsIn_wide (n := 3)).1 ?_
  refine callsIn_of_wp_marks Try.func13 rfl trivial ?_ rfl
  simp only [Try.ntmps13, List.size_toArray, List.length_cons, List.length_nil, Nat.reduceAdd, Nat.reduceSub, Array.replicate_succ, Array.replicate_zero, List.push_toArray, List.append_toArray, List.nil_append, List.cons_append]
  refine wpIn_wide.2 ?_
  go_wp2_with fail
  refine (num_any _ _ (by omega) (by omega)).mono ?_
  rintro e w1 ⟨rfl, hq1⟩
  have hbn : BoxV w1 w.heap.size (.string ⟨nm.toArray⟩) 9 := BoxV.q (((BoxV.new w _ _).q ((Q.refl _).alloc _))) hq1
  have hbt : BoxV w1 (w.heap.size + 1) (.string ⟨l.toArray⟩) 9 := by
    have := (BoxV.new (w.alloc (Obj.cells #[.string ⟨nm.toArray⟩] 9)) (.string ⟨l.toArray⟩) 9).q hq1
    rwa [World.size_alloc] at this
  have hq0 : Q w w1 := (((Q.refl w).alloc _).alloc _).trans hq1
  have hs1 : w.heap.size + 2 ≤ w1.heap.size := by have := hq1.size; simp at this; omega
  clear hq1
  have hcn := hbn.c
  have hct := hbt.c
  go_wp2_with fail
  obtain ⟨W2, hW2⟩ : ∃ W2, (w1.alloc (Obj.cells #[Value.string ⟨(U32 (l.length : Int)).toArray⟩] 9)).alloc (Obj.cells #[Value.pointer none, Value.slice none 0 0] 56) = W2 := ⟨_, rfl⟩
  have hq2 : Q w1 W2 := by rw [← hW2]; exact ((Q.refl _).alloc _).alloc _
  have hs2 : W2.heap.size = w1.heap.size + 2 := by rw [← hW2]; simp
  have hbf : BF (w1.heap.size + 1) (w1.heap.size + 1) [] W2 := by
    rw [← hW2]
    have := BF.new (w1.heap.size + 1) (w1.alloc (Obj.cells #[Value.string ⟨(U32 (l.length : Int)).toArray⟩] 9)) (by simp)
    rwa [World.size_alloc] at this
  have hbl : BoxV W2 w1.heap.size (.string ⟨(U32 (l.length : Int)).toArray⟩) 9 := by rw [← hW2]; exact (BoxV.new w1 _ _).q ((Q.refl _).alloc _)
  have hbn2 := hbn.q hq2
  have hbt2 := hbt.q hq2
  have hq02 := hq0.trans hq2
  rw [hW2]
  clear hW2 hcn hct hbn hbt hq2 hq0
  generalize hN1 : w1.heap.size = N1 at *
  generalize hN0 : w.heap.size = N0 at *
  have hcl := hbl.c
  have hcn := hbn2.c
  have HB := Lib.hid hbf
  clear hbf
  have hsz : 4 + szL [nm, U32 (l.length : Int)] ≤ 60000 := by rw [sz2, l1]; omega
  have HA : Hid (StrsAt (W2.alloc (Obj.cells #[.string ⟨nm.toArray⟩, .string ⟨(U32 (l.length : Int)).toArray⟩] 9)).drew (some ⟨N1 + 2, 0, none⟩) 2 [nm, U32 (l.length : Int)]) := by
    have := StrsAt_new W2 9 [nm, U32 (l.length : Int)]
    rw [hs2] at this
    exact this.q (Q.refl _).drew
  have hc2 : (2 : Nat) ≤ 9223372036854775807 := by omega
  have hshl : (sha (listL [nm, U32 (l.length : Int)])).length = 32 := sha_length _
  have hwl : ([] : List UInt8).length + (U32 (l.length : Int) ++ sha (listL [nm, U32 (l.length : Int)])).length ≤ 140737488355328 := by simp [l1, sha_length]
  have hnn : N0 ≠ N1 + 1 ∧ N0 + 1 ≠ N1 + 1 ∧ N1 ≠ N1 + 1 := by omega
  go_region_held3 (fun w' => w'.cell? ⟨N1, 0, none⟩ = some (.string ⟨(U32 (l.length : Int)).toArray⟩) ∧ w'.cell? ⟨N0, 0, none⟩ = some (.string ⟨nm.toArray⟩)) (first | exact ⟨k1, k2⟩ | exact ⟨k3, k4⟩ | go_keep) ((first
    | (go_at_call 43; refine (shsum_any _ 2 2 [nm, U32 (l.length : Int)] _ HA.out hsz hc2).mono ?_; rintro e w3 ⟨rfl, hq3⟩; have hq23 : Q W2 w3 := ((Q.refl W2).alloc _).drew.trans hq3; have k1 := hq23.cell hcl; have k2 := hq23.cell hcn; have hw3 : N1 + 1 ≤ w3.heap.size := by have := hq23.size; omega)
    | (go_at_call 42; refine (bfWrite (N1 + 1) (N1 + 1) [] (U32 (l.length : Int) ++ sha (listL [nm, U32 (l.length : Int)])) _ (HB.out.q hq23) hwl hw3).mono ?_; rintro e w4 ⟨rfl, hbf4, hb4, hk4⟩
       have hbl4 := (hbl.q hq23).kept hk4 hnn.2.2 (by decide)
       have hbn4 := (hbn2.q hq23).kept hk4 hnn.1 (by decide)
       have hbt4 := (hbt2.q hq23).kept hk4 hnn.2.1 (by decide)
       have k3 := hbl4.c
       have k4 := hbn4.c)))
  have hq4 : Q w w4 := (hq02.trans hq23).below (Below.mono hb4 (by omega))
  have hs4 : N1 + 2 ≤ w4.heap.size := by have h1 := hq23.size; have h2 := hb4.size; omega
  have hb0 : BF (N1 + 1) (N1 + 1) (sealK nm l 0) w4 := by
    have e : sealK nm l 0 = [] ++ (U32 (l.length : Int) ++ sha (listL [nm, U32 (l.length : Int)])) := by simp [sealK, headL]
    rw [e]; exact hbf4
  have hct := hbt4.c
  clear hbf4 hb4 hk4 hq23 hq3 k1 k2 hw3 HA HB hcl hcn hbl hbn2 hbt2 hq02 hs2 hwl hc2 hsz k3 k4
  go_wp2_with fail
  refine (blocks_mk _ _).mono ?_
  rintro e w5 ⟨rfl, hw5⟩
  have hq5 : Q w4 w5 := by rw [hw5]; exact (Q.refl _).alloc _
  have hx5 : BoxI w5 w4.heap.size (l.length : Int) := by rw [hw5]; exact World.alloc_heap_new _ _
  have hs5 : w5.heap.size = w4.heap.size + 1 := by rw [hw5]; simp
  have hbl5 := hbl4.q hq5
  have hbn5 := hbn4.q hq5
  have hbt5 := hbt4.q hq5
  have hb5 := hb0.q hq5
  have hq05 := hq4.trans hq5
  generalize hN4 : w4.heap.size = N4 at *
  clear hw5 hbl4 hbn4 hbt4 hb0 hq4 hq5 hct
  go_wp2_with fail
  refine wpIn_wide.1 (wp_rangeFunc_c (n := 1) rfl (enters_of Try.func65 (by kernel_rfl) rfl) (blocks_seq l.length h2 N4) (by omega) (fun W hg => (BoxV.grown (v := .int .i64 (l.length : Int)) (t := 3) hx5 hg (by simp) : BoxV W N4 _ _)) (fun _ => rfl)
    (fun pre W => BF (N1 + 1) (N1 + 1) (sealK nm l pre.length) W ∧ Q w W ∧ BoxV W N1 (.string ⟨(U32 (l.length : Int)).toArray⟩) 9 ∧ BoxV W N0 (.string ⟨nm.toArray⟩) 9 ∧ BoxV W (N0 + 1) (.string ⟨l.toArray⟩) 9)
    (fun _ _ _ => False) ?hI (fun _ _ _ _ _ h _ _ _ => h) ⟨hb5, hq05, hbl5, hbn5, hbt5⟩
    (fun x a' W => ∃ Bx, w5.heap.size + 3 ≤ Bx ∧ BlkAt W Bx (aK l.length x : Int) (sK l.length x : Int) (zK l.length x : Int) ∧ a' = ({ tmps := #[.string ⟨nm.toArray⟩, .string ⟨l.toArray⟩, .pointer (some ⟨N0, 0, none⟩), .pointer (some ⟨N0 + 1, 0, none⟩), .string ⟨#[]⟩, .nilIface, .pointer (some ⟨N1, 0, none⟩), .pointer (some ⟨N1 + 1, 0, none⟩), .int .i64 (x : Int), .pointer (some ⟨Bx, 0, none⟩), undef, .string ⟨nm.toArray⟩, .int .i64 (nm.length : Int), .bool false, .bool false, .string ⟨l.toArray⟩, .int .i64 (l.length : Int), .bool false, .bool false, undef, .string ⟨l.toArray⟩, .int .i64 (l.length : Int), .string ⟨(U32 (l.length : Int)).toArray⟩, .string ⟨(U32 (l.length : Int)).toArray⟩, .string ⟨nm.toArray⟩, .string ⟨(U32 (l.length : Int)).toArray⟩, .slice (some ⟨N1 + 2, 0, none⟩) 2 2, .string ⟨(sha (listL [nm, U32 (l.length : Int)])).toArray⟩, .string ⟨(U32 (l.length : Int) ++ sha (listL [nm, U32 (l.length : Int)])).toArray⟩, .tuple #[.int .i64 36, .nilIface], .string ⟨l.toArray⟩, .int .i64 (l.length : Int), .func (.func 65) #[] #[.pointer (some ⟨N4, 0, none⟩)], .int .i64 (x : Int), .agg #[.int .i64 (aK l.length x : Int), .int .i64 (sK l.length x : Int), .int .i64 (zK l.length x : Int)], undef, undef, undef, undef, undef, undef, undef, undef, undef, undef, undef, undef, undef, undef, undef, undef, undef, undef, undef, undef], defers := [] } : Act)) ?hAx ?assign ?body ?done ?stop)
  case hI =>
    rintro pre W W' row ⟨i1, i2, i3, i4, i5⟩ hg hr hn
    refine ⟨i1.grown hg (fun r o e ho => ⟨hn r o e ho, by have := hr r e; omega⟩), Below.grown i2 hg i2.size (fun k e => by have := hr k e; omega), i3.grown hg (fun e => by have := hr _ e; omega), i4.grown hg (fun e => by have := hr _ e; omega), i5.grown hg (fun e => by have := hr _ e; omega)⟩
  case hAx =>
    rintro x a' _ W W' row ⟨Bx, hBx, hb, rfl⟩ hg hr hn
    exact ⟨Bx, hBx, (hg.block _ (Array.getElem?_eq_some_iff.1 hb).1 (fun e => by have := hr _ e.symm; omega)).trans hb, rfl⟩
  case assign =>
    intro r x W K hsz hK
    unfold encB
    gi_wp2
    exact hK _ _ (World.grownBy_alloc W _ none) ⟨W.heap.size, by omega, World.alloc_heap_new W _, rfl⟩
  case done =>
    rintro D xs W hD1 hD2 rfl ⟨i1, i2, i3, i4, i5⟩ hK
    rw [List.length_range] at i1
    have HF := Lib.hid i1
    clear i1
    have hsW : N1 + 1 ≤ W.heap.size := by have := i3.lt; have := (Array.getElem?_eq_some_iff.1 hK).1; omega
    go_wp2_with fail
    refine (bfString (N1 + 1) (N1 + 1) _ _ HF.out hsW).mono ?_
    rintro e w6 ⟨rfl, hb6, hk6⟩
    have hK6 : w6.heap[D]? = some (Obj.deferred (some [])) := hk6 D _ hK (by simp; omega) (fun c fz e => by cases e)
    have hq6 : Q w w6 := i2.below (Below.mono hb6 (by omega))
    clear hK i2 i3 i4 i5 hk6 hb6
    go_wp2_with fail
    refine ⟨by simp, .inl ⟨_, _, rfl, run_takeDeferred hK6, ?_⟩⟩
    exact ⟨_, results_tmp2 rfl _ _ _, rfl, Below.grown hq6 (grownBy_putObj' w6 D _) hq6.size (fun k e => by cases e; omega)⟩
  case stop =>
    rintro D c pre W _ _ _ h
    exact h.elim
  case body =>
    rintro r pre x a' W ⟨i1, i2, i3, i4, i5⟩ ⟨rfl, hx⟩ hW hnr ⟨Bx, hBx, hb, rfl⟩
    rw [List.length_range] at i1
    have ha := aK_lt l.length x hx
    have hsb := sK_bd l.length x h2 hx
    have hzb : (zK l.length x : Int) ≤ 200 := by unfold zK; omega
    have hazl : (aK l.length x : Int) + (zK l.length x : Int) ≤ (l.length : Int) := by unfold zK; omega
    have hbl : sub l (200 * x) (200 * x + zK l.length x) = blkL l x := by
      unfold blkL zK; rw [ha.1, show 200 * x + min 200 (l.length - 200 * x) = min l.length (200 * (x + 1)) by omega]
    have hx60 : x ≤ 60 := by unfold nB at hx; omega
    have c0 := hb.c0
    have c1 := hb.c1
    have c2 := hb.c2
    have ct := i5.c
    have hkl := sealK_len nm l x (by omega)
    have hbk : (blkL l x).length ≤ 200 := by unfold blkL; rw [length_sub]; omega
    have HF := Lib.hid i1
    clear i1
    gi_wp2
    rw [hbl]
    refine wpIn_mix [0, 3, 5] [1, 2, 4] 6 [7, 8, 9] (by kernel_rfl) (fun ⟨_, _, h⟩ => h) (by kernel_rfl) (by kernel_rfl) (by intro c a d v w h; cases d <;> exact h) ?_
    simp only [List.map_cons, List.map_nil, Array.getD_eq_getD_getElem?, List.getElem?_toArray, List.getElem?_cons_succ, List.getElem?_cons_zero, Option.getD_some]
    (repeat (go_big_quiet_step (fail)))
    refine wpQuiet_nil ?_
    have cl : ∀ m : QW W, m.val.cell? ⟨N1, 0, none⟩ = some (.string ⟨(U32 (l.length : Int)).toArray⟩) := fun m => m.cell i3.c
    have cn : ∀ m : QW W, m.val.cell? ⟨N0, 0, none⟩ = some (.string ⟨nm.toArray⟩) := fun m => m.cell i4.c
    (repeat (go_big_quiet_step ((go_at_call 41; exact calls_q (num_any _ _ (by omega) (by omega))))))
    refine wpQuiet_nil ?_
    rintro wx ⟨mx, hmx⟩
    have hqx : Q W wx := by rw [hmx]; exact mx.le
    clear hmx mx
    have hsz : 4 + szL [nm, U32 (l.length : Int), U32 (x : Int), blkL l x] ≤ 60000 := by rw [sz4, l1, l1]; omega
    have hBn : N1 + 1 ≤ W.heap.size := by omega
    go_wp2_with fail
    refine (shsum_any _ 4 4 [nm, U32 (l.length : Int), U32 (x : Int), blkL l x] _ (StrsAt_new wx 9 [nm, U32 (l.length : Int), U32 (x : Int), blkL l x]) hsz (by omega)).mono ?_
    rintro e wy ⟨rfl, hqy⟩
    have hq7 : Q W wy := (hqx.alloc _).trans hqy
    have hsy := hq7.size
    clear hqy hqx
    have hS : sha (listL [nm, U32 (l.length : Int), U32 (x : Int), blkL l x]) = sumL nm l.length x (blkL l x) := rfl
    have hSl : (sumL nm l.length x (blkL l x)).length = 32 := sha_length _
    rw [hS]
    go_wp2_with fail
    refine (bfWrite (N1 + 1) (N1 + 1) (sealK nm l x) (blkL l x ++ sumL nm l.length x (blkL l x)) _ (HF.out.q hq7) (by rw [List.length_append, hSl]; omega) (by omega)).mono ?_
    rintro e wz ⟨rfl, hbz, hz, hkz⟩
    have hqz : Q w wz := (i2.trans hq7).below (Below.mono hz (by omega))
    go_wp2_with fail
    refine ⟨KeepL.of hq7 hkz hz.size (by intro k hk; simp only [List.mem_cons, List.not_mem_nil, or_false] at hk; omega) hnr, ?_, hqz, (i3.q hq7).kept hkz hnn.2.2 (by decide), (i4.q hq7).kept hkz hnn.1 (by decide), (i5.q hq7).kept hkz hnn.2.1 (by decide)⟩
    rw [List.length_append, List.length_range, List.length_singleton, sealK_s]
    exact hbz
end Go.Proofs.Yteadblkkbbhpjaa
