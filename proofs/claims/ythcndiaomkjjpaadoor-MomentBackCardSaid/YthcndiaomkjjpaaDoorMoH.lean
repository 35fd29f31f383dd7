/- The three texts of a moment: the reference's. -/
import Derived.Test.YthcndiaomkjjpaaDoorMoG
import Derived.Test.YthcndiaomkjjpaaDoorMoD
set_option linter.unusedVariables false
namespace Go.Proofs.YthcndiaomkjjpaaDoor
open Go Go.RowKit
theorem digitsI (n c : Int) (w : World) (h0 : 0 ≤ n) (h1 : n ≤ 1000000) (c0 : 0 ≤ c) (c1 : c ≤ 10) : Calls Tryd.prog 30 #[.int .i64 n, .int .i64 c] w fun e w' => e = .returned (.string ⟨(digL n c.toNat).toArray⟩) ∧ w = w' := by
  obtain ⟨k, rfl⟩ : ∃ k : Nat, c = k := ⟨c.toNat, by omega⟩
  rw [Int.toNat_natCast]
  exact digits_any n k w h0 h1 (by omega)
attribute [go_sem] digL_length
def WhenT (w : World) (g : Nat) (t : Int) : Prop := w.heap[g]? = some (.cells (whenV t) 31 (0, 0))
theorem WhenT.q {w w' : World} {g : Nat} {t : Int} (h : WhenT w g t) (hq : Q w w') : WhenT w' g t := hq.block h
theorem whenT_start (w : World) (cs : Array Value) (t : Int) :
    ∃ w3, w3 = (w.alloc (.cells cs 31)).setRow w.heap.size (whenV t) ∧ WhenT w3 w.heap.size t ∧ Q w w3 := by
  refine ⟨_, rfl, ?_, Q.setRow ((Q.refl w).alloc _) (Nat.le_refl _) _⟩
  unfold WhenT
  simp only [World.setRow, Array.getElem?_modify, if_true]
  rw [heap_alloc_new]
  rfl
theorem WhenT.c0 {w : World} {g : Nat} {t : Int} (h : WhenT w g t) : w.cell? ⟨g, 0, none⟩ = some (.int .i64 (civY (zI t))) := by rw [cell_of_row _ _ _ _ _ _ h]; rfl
theorem WhenT.c1 {w : World} {g : Nat} {t : Int} (h : WhenT w g t) : w.cell? ⟨g, 1, none⟩ = some (.int .i64 (civM (zI t))) := by rw [cell_of_row _ _ _ _ _ _ h]; rfl
theorem WhenT.c2 {w : World} {g : Nat} {t : Int} (h : WhenT w g t) : w.cell? ⟨g, 2, none⟩ = some (.int .i64 (civD (zI t))) := by rw [cell_of_row _ _ _ _ _ _ h]; rfl
theorem WhenT.c3 {w : World} {g : Nat} {t : Int} (h : WhenT w g t) : w.cell? ⟨g, 3, none⟩ = some (.int .i64 ((t / 86400 + 4) % 7)) := by rw [cell_of_row _ _ _ _ _ _ h]; rfl
theorem WhenT.c4 {w : World} {g : Nat} {t : Int} (h : WhenT w g t) : w.cell? ⟨g, 4, none⟩ = some (.int .i64 (hoI t)) := by rw [cell_of_row _ _ _ _ _ _ h]; rfl
theorem WhenT.c5 {w : World} {g : Nat} {t : Int} (h : WhenT w g t) : w.cell? ⟨g, 5, none⟩ = some (.int .i64 (miI t)) := by rw [cell_of_row _ _ _ _ _ _ h]; rfl
theorem WhenT.c6 {w : World} {g : Nat} {t : Int} (h : WhenT w g t) : w.cell? ⟨g, 6, none⟩ = some (.int .i64 (seI t)) := by rw [cell_of_row _ _ _ _ _ _ h]; rfl
theorem infoWT (t : Int) : (Tryd.prog.info? 31).map (·.size) = some (whenV t).size := infoWhen
theorem allWT (t : Int) : (whenV t).all (·.oneCell') = true := by unfold whenV; simp [Value.oneCell']
def clockL (t : Int) : List UInt8 := d2 (hoI t) ++ [58] ++ d2 (miI t) ++ [58] ++ d2 (seI t)
set_option maxRecDepth 100000 in
set_option maxHeartbeats 4000000 in
theorem clockR (t : Int) (w : World) (h0 : 0 ≤ t) (h1 : t ≤ 253402300799) : Calls Tryd.prog 31 #[.agg (whenV t)] w fun e w' => e = .returned (.string ⟨(clockL t).toArray⟩) ∧ Q w w' := by
  obtain ⟨_, _, _, ⟨o0, o1⟩, ⟨i0, i1⟩, ⟨s0, s1⟩⟩ := parts_bd t h0 h1
  have hs : clockL t = d2 (hoI t) ++ [58] ++ d2 (miI t) ++ [58] ++ d2 (seI t) := rfl
  go_enter Tryd.func31, Tryd.ntmps31
  go_upto_region 1 with (fail)
  obtain ⟨w1, hw1, hT1, hq1⟩ : ∃ w1, w1 = w.alloc (.cells (whenV t) 31) ∧ WhenT w1 w.heap.size t ∧ Q w w1 := ⟨_, rfl, heap_alloc_new w _, (Q.refl w).alloc _⟩
  refine Eq.mp (congrArg _ hw1) ?_
  clear hw1
  have c4 := hT1.c4
  have c5 := hT1.c5
  have c6 := hT1.c6
  have y4 := fun m : QW w1 => m.cell c4
  have y5 := fun m : QW w1 => m.cell c5
  have y6 := fun m : QW w1 => m.cell c6
  have HQ := Lib.hid hq1
  have HS := Lib.hid hs
  clear hT1 c4 c5 c6 hq1 hs
  generalize hoI t = o at *
  generalize miI t = i at *
  generalize seI t = s at *
  refine wp_region_q (by kernel_rfl) (by kernel_rfl) ?_
  (repeat (go_big_quiet_step ((go_at_call 30; exact calls_qs (digitsI _ _ _ (by omega) (by omega) (by decide) (by decide))))))
  refine wpQuiet_nil ?_
  rintro wx ⟨mx, hmx⟩
  have hqx : Q w wx := by rw [hmx]; exact HQ.out.trans mx.le
  have HQX := Lib.hid hqx
  clear hmx mx hqx y4 y5 y6
  go_wp2_with fail
  go_ret
  exact ⟨by rw [HS.out, ← digL_2, ← digL_2, ← digL_2]; simp, HQX.out⟩
set_option maxRecDepth 100000 in
set_option maxHeartbeats 4000000 in
theorem StampR (t : Int) (w : World) (h0 : 0 ≤ t) (h1 : t ≤ 253402300799) : Calls Tryd.prog 15 #[.int .i64 t] w fun e w' => e = .returned (.string ⟨(stampL t).toArray⟩) ∧ Q w w' := by
  obtain ⟨⟨y0, y1⟩, ⟨m0, m1⟩, ⟨d0, d1⟩, ⟨o0, o1⟩, ⟨i0, i1⟩, ⟨s0, s1⟩⟩ := parts_bd t h0 h1
  have hs : stampL t = d4 (civY (zI t)) ++ d2 (civM (zI t)) ++ d2 (civD (zI t)) ++ [84] ++ d2 (hoI t) ++ d2 (miI t) ++ d2 (seI t) ++ [90] := rfl
  have HS := Lib.hid hs
  clear hs
  go_enter Tryd.func15, Tryd.ntmps15
  go_wp2_with fail
  with_reducible refine (Apart_ok t _ h0 h1).mono ?_
  rintro e w1 ⟨rfl, hq1⟩
  go_upto_region 2 with (refine wpList_store_row rfl 31 (.tmp 3) (.tmp 5) (by rfl) w1.heap.size (whenV t) (by rfl) (by rfl) 31 _ (heap_alloc_new w1 _) (infoWT t) rfl (allWT t) ?_)
  obtain ⟨w3, hw3, hT3, hq3⟩ := whenT_start w1 _ t
  rw [← hw3]
  clear hw3
  simp only [Act.put]
  obtain ⟨g, hg⟩ : ∃ g, g = w1.heap.size := ⟨_, rfl⟩
  rw [← hg] at hT3 ⊢
  clear hg
  have HT := Lib.hid (fun (w' : World) (h : ∃ m : QW w3, w' = m.val) => (by obtain ⟨m, rfl⟩ := h; exact hT3.q m.le : WhenT w' g t))
  have HC := Lib.hid (fun m : QW w3 => clockR t m.val h0 h1)
  have c0 := hT3.c0
  have c1 := hT3.c1
  have c2 := hT3.c2
  have c3 := hT3.c3
  have c4 := hT3.c4
  have c5 := hT3.c5
  have c6 := hT3.c6
  have HQ := Lib.hid (hq1.trans hq3)
  clear hT3 hq1 hq3
  generalize civY (zI t) = Y at *
  generalize civM (zI t) = M at *
  generalize civD (zI t) = D at *
  generalize hoI t = o at *
  generalize miI t = i at *
  generalize seI t = s at *
  have y0' := fun m : QW w3 => m.cell c0
  have y1' := fun m : QW w3 => m.cell c1
  have y2' := fun m : QW w3 => m.cell c2
  have y4' := fun m : QW w3 => m.cell c4
  have y5' := fun m : QW w3 => m.cell c5
  have y6' := fun m : QW w3 => m.cell c6
  clear c0 c1 c2 c3 c4 c5 c6
  refine wp_region_q (by kernel_rfl) (by kernel_rfl) ?_
  (repeat (go_big_quiet_step ((go_at_call 30; exact calls_qs (digitsI _ _ _ (by omega) (by omega) (by decide) (by decide))))))
  refine wpQuiet_nil ?_
  rintro wx ⟨mx, hmx⟩
  have hqx : Q w wx := by rw [hmx]; exact HQ.out.trans mx.le
  have HQX := Lib.hid hqx
  clear hmx mx hqx y0' y1' y2' y4' y5' y6'
  go_wp2_with fail
  go_ret
  exact ⟨by rw [HS.out]; simp [← digL_2, ← digL_4], HQX.out⟩
set_option maxRecDepth 100000 in
set_option maxHeartbeats 4000000 in
theorem LongR (t : Int) (w : World) (h0 : 0 ≤ t) (h1 : t ≤ 253402300799) : Calls Tryd.prog 16 #[.int .i64 t] w fun e w' => e = .returned (.string ⟨(longL t).toArray⟩) ∧ Q w w' := by
  obtain ⟨⟨y0, y1⟩, ⟨m0, m1⟩, ⟨d0, d1⟩, ⟨o0, o1⟩, ⟨i0, i1⟩, ⟨s0, s1⟩⟩ := parts_bd t h0 h1
  have hs : longL t = d4 (civY (zI t)) ++ [45] ++ d2 (civM (zI t)) ++ [45] ++ d2 (civD (zI t)) ++ [84] ++ d2 (hoI t) ++ [58] ++ d2 (miI t) ++ [58] ++ d2 (seI t) ++ [46, 48, 48, 48, 90] := rfl
  have HS := Lib.hid hs
  clear hs
  go_enter Tryd.func16, Tryd.ntmps16
  go_wp2_with fail
  with_reducible refine (Apart_ok t _ h0 h1).mono ?_
  rintro e w1 ⟨rfl, hq1⟩
  go_upto_region 2 with (refine wpList_store_row rfl 31 (.tmp 3) (.tmp 5) (by rfl) w1.heap.size (whenV t) (by rfl) (by rfl) 31 _ (heap_alloc_new w1 _) (infoWT t) rfl (allWT t) ?_)
  obtain ⟨w3, hw3, hT3, hq3⟩ := whenT_start w1 _ t
  rw [← hw3]
  clear hw3
  simp only [Act.put]
  obtain ⟨g, hg⟩ : ∃ g, g = w1.heap.size := ⟨_, rfl⟩
  rw [← hg] at hT3 ⊢
  clear hg
  have HT := Lib.hid (fun (w' : World) (h : ∃ m : QW w3, w' = m.val) => (by obtain ⟨m, rfl⟩ := h; exact hT3.q m.le : WhenT w' g t))
  have HC := Lib.hid (fun m : QW w3 => clockR t m.val h0 h1)
  have c0 := hT3.c0
  have c1 := hT3.c1
  have c2 := hT3.c2
  have c3 := hT3.c3
  have c4 := hT3.c4
  have c5 := hT3.c5
  have c6 := hT3.c6
  have HQ := Lib.hid (hq1.trans hq3)
  clear hT3 hq1 hq3
  have hcl : clockL t = d2 (hoI t) ++ [58] ++ d2 (miI t) ++ [58] ++ d2 (seI t) := rfl
  have hcn : (clockL t).length = 8 := rfl
  have HCL := Lib.hid hcl
  clear hcl
  generalize civY (zI t) = Y at *
  generalize civM (zI t) = M at *
  generalize civD (zI t) = D at *
  generalize clockL t = CK at *
  have y0' := fun m : QW w3 => m.cell c0
  have y1' := fun m : QW w3 => m.cell c1
  have y2' := fun m : QW w3 => m.cell c2
  clear c0 c1 c2 c3 c4 c5 c6
  refine wp_region_q (by kernel_rfl) (by kernel_rfl) ?_
  (repeat (go_big_quiet_step ((go_at_call 30; exact calls_qs (digitsI _ _ _ (by omega) (by omega) (by decide) (by decide))))))
  refine wpQuiet_load_row rfl 31 (.tmp 3) rfl g (by rfl) _ _ _ _ HT.out Tryd.underlying31 rfl (infoWT t) ?_
  simp only [Act.put, List.setIfInBounds_toArray, List.set_cons_succ, List.set_cons_zero]
  (repeat (go_big_quiet_step ((go_at_call 31; exact calls_q (HC.out _)))))
  refine wpQuiet_nil ?_
  rintro wx ⟨mx, hmx⟩
  have hqx : Q w wx := by rw [hmx]; exact HQ.out.trans mx.le
  have HQX := Lib.hid hqx
  clear hmx mx hqx y0' y1' y2'
  go_wp2_with fail
  go_ret
  exact ⟨by rw [HS.out]; simp [← digL_2, ← digL_4, HCL.out], HQX.out⟩
set_option maxRecDepth 100000 in
set_option maxHeartbeats 4000000 in
theorem WebR (t : Int) (w : World) (h0 : 0 ≤ t) (h1 : t ≤ 253402300799) : Calls Tryd.prog 17 #[.int .i64 t] w fun e w' => e = .returned (.string ⟨(webL t).toArray⟩) ∧ Q w w' := by
  obtain ⟨⟨y0, y1⟩, ⟨m0, m1⟩, ⟨d0, d1⟩, ⟨o0, o1⟩, ⟨i0, i1⟩, ⟨s0, s1⟩⟩ := parts_bd t h0 h1
  have hs : webL t = weekL t ++ [44, 32] ++ d2 (civD (zI t)) ++ [32] ++ monthL (civM (zI t)) ++ [32] ++ d4 (civY (zI t)) ++ [32] ++ d2 (hoI t) ++ [58] ++ d2 (miI t) ++ [58] ++ d2 (seI t) ++ [32, 71, 77, 84] := rfl
  have HS := Lib.hid hs
  clear hs
  go_enter Tryd.func17, Tryd.ntmps17
  go_wp2_with fail
  with_reducible refine (Apart_ok t _ h0 h1).mono ?_
  rintro e w1 ⟨rfl, hq1⟩
  go_upto_region 2 with (refine wpList_store_row rfl 31 (.tmp 3) (.tmp 7) (by rfl) w1.heap.size (whenV t) (by rfl) (by rfl) 31 _ (heap_alloc_new w1 _) (infoWT t) rfl (allWT t) ?_)
  obtain ⟨w3, hw3, hT3, hq3⟩ := whenT_start w1 _ t
  rw [← hw3]
  clear hw3
  simp only [Act.put]
  obtain ⟨g, hg⟩ : ∃ g, g = w1.heap.size := ⟨_, rfl⟩
  rw [← hg] at hT3 ⊢
  clear hg
  have HT := Lib.hid (fun (w' : World) (h : ∃ m : QW w3, w' = m.val) => (by obtain ⟨m, rfl⟩ := h; exact hT3.q m.le : WhenT w' g t))
  have HC := Lib.hid (fun m : QW w3 => clockR t m.val h0 h1)
  have c0 := hT3.c0
  have c1 := hT3.c1
  have c2 := hT3.c2
  have c3 := hT3.c3
  have c4 := hT3.c4
  have c5 := hT3.c5
  have c6 := hT3.c6
  have HQ := Lib.hid (hq1.trans hq3)
  clear hT3 hq1 hq3
  have hw : sub [83, 117, 110, 77, 111, 110, 84, 117, 101, 87, 101, 100, 84, 104, 117, 70, 114, 105, 83, 97, 116] (3 * ((t / 86400 + 4) % 7)).toNat (3 * ((t / 86400 + 4) % 7) + 3).toNat = weekL t := rfl
  have hm : sub [74, 97, 110, 70, 101, 98, 77, 97, 114, 65, 112, 114, 77, 97, 121, 74, 117, 110, 74, 117, 108, 65, 117, 103, 83, 101, 112, 79, 99, 116, 78, 111, 118, 68, 101, 99] (3 * civM (zI t) - 3).toNat (3 * civM (zI t)).toNat = monthL (civM (zI t)) := rfl
  have hwl : (weekL t).length ≤ 3 := by rw [← hw, length_sub]; omega
  have hml : (monthL (civM (zI t))).length ≤ 36 := by rw [← hm, length_sub]; simp; omega
  have hcl : clockL t = d2 (hoI t) ++ [58] ++ d2 (miI t) ++ [58] ++ d2 (seI t) := rfl
  have hcn : (clockL t).length = 8 := rfl
  have HCL := Lib.hid hcl
  clear hcl
  generalize civY (zI t) = Y at *
  generalize civM (zI t) = M at *
  generalize civD (zI t) = D at *
  generalize clockL t = CK at *
  generalize weekL t = WK at *
  generalize monthL M = MN at *
  obtain ⟨k, hk⟩ : ∃ k, (t / 86400 + 4) % 7 = k := ⟨_, rfl⟩
  have hkb : 0 ≤ k ∧ k ≤ 6 := by omega
  rw [hk] at hw c3
  clear hk
  have k1 : 0 ≤ 3 * k := by omega
  have k2 : 3 * k ≤ 3 * k + 3 := by omega
  have k3 : 3 * k + 3 ≤ 21 := by omega
  have k4 : 0 ≤ 3 * M - 3 := by omega
  have k5 : 3 * M - 3 ≤ 3 * M := by omega
  have k6 : 3 * M ≤ 36 := by omega
  have y3' := fun m : QW w3 => m.cell c3
  have y0' := fun m : QW w3 => m.cell c0
  have y1' := fun m : QW w3 => m.cell c1
  have y2' := fun m : QW w3 => m.cell c2
  clear c0 c1 c2 c3 c4 c5 c6
  go_upto_region 4 with (fail)
  refine wp_region_q (by kernel_rfl) (by kernel_rfl) ?_
  (repeat (go_big_quiet_step ((go_at_call 30; exact calls_qs (digitsI _ _ _ (by omega) (by omega) (by decide) (by decide))))))
  refine wpQuiet_load_row rfl 31 (.tmp 3) rfl g (by rfl) _ _ _ _ HT.out Tryd.underlying31 rfl (infoWT t) ?_
  simp only [Act.put, List.setIfInBounds_toArray, List.set_cons_succ, List.set_cons_zero]
  (repeat (go_big_quiet_step ((go_at_call 31; exact calls_q (HC.out _)))))
  refine wpQuiet_nil ?_
  rintro wx ⟨mx, hmx⟩
  have hqx : Q w wx := by rw [hmx]; exact HQ.out.trans mx.le
  have HQX := Lib.hid hqx
  clear hmx mx hqx y0' y1' y2' y3' hw hm
  go_wp2_with fail
  go_ret
  exact ⟨by rw [HS.out]; simp [← digL_2, ← digL_4, HCL.out], HQX.out⟩
theorem IsR (t : Int) (w : World) : Calls Tryd.prog 13 #[.int .i64 t] w fun e w' => e = .returned (.bool (decide (0 ≤ t) && decide (t ≤ 253402300799))) ∧ w = w' := by
  cases h0 : decide (0 ≤ t)
  · go_enter Tryd.func13, Tryd.ntmps13
    go_wp2_with fail
    go_ret
    exact ⟨rfl, rfl⟩
  · cases h1 : decide (t ≤ 253402300799)
    · go_enter Tryd.func13, Tryd.ntmps13
      go_wp2_with fail
      go_ret
      exact ⟨rfl, rfl⟩
    · go_enter Tryd.func13, Tryd.ntmps13
      go_wp2_with fail
      go_ret
      exact ⟨rfl, rfl⟩
end Go.Proofs.YthcndiaomkjjpaaDoor
