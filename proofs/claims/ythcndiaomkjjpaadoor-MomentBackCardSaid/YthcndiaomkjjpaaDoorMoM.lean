/- Reading the stamps and long texts that moments have. -/
import Derived.Test.YthcndiaomkjjpaaDoorMoL
set_option linter.unusedVariables false
namespace Go.Proofs.YthcndiaomkjjpaaDoor
open Go Go.RowKit
set_option maxRecDepth 100000 in
set_option maxHeartbeats 4000000 in
/-- The moment that is told so. -/
theorem readStamp_yes (l : List UInt8) (t : Int) (w : World) (ht : Tab w) (hl : l.length ≤ 140737488355328) (h0 : 0 ≤ t) (h1 : t ≤ 253402300799) (ht0 : stampL t = l) :
    Calls Tryd.prog 33 #[.string ⟨l.toArray⟩, .agg #[.int .i64 0, .int .i64 4, .int .i64 6, .int .i64 9, .int .i64 11, .int .i64 13], .func (.func 9) #[] #[]] w (ReadPost l stampL w) := by
  obtain ⟨hsome, hE, hT0⟩ := readyStamp t h0 h1
  rw [ht0] at hsome hE hT0
  have HT0 := Lib.hid ht0
  have HS := Lib.hid hsome
  have HE := Lib.hid hE
  have HTT := Lib.hid hT0
  have HTB := Lib.hid ht
  clear ht0 hsome hE hT0 ht
  go_enter Tryd.func33, Tryd.ntmps33
  go_upto_region 3 with (fail)
  obtain ⟨w1, hw1, hP1, hR1, hq1⟩ : ∃ w1, w1 = (w.alloc (.cells #[.int .i64 0, .int .i64 4, .int .i64 6, .int .i64 9, .int .i64 11, .int .i64 13] 47)).alloc (.cells #[.string ⟨l.toArray⟩, .bool true] 53) ∧
      w1.heap[w.heap.size]? = some (.cells #[.int .i64 0, .int .i64 4, .int .i64 6, .int .i64 9, .int .i64 11, .int .i64 13] 47 (0, 0)) ∧ ReadAt w1 (w.heap.size + 1) l true ∧ Q w w1 :=
    ⟨_, rfl, heap_alloc2_old _ _ _, heap_alloc2_new _ _ _, ((Q.refl w).alloc _).alloc _⟩
  refine Eq.mp (congrArg _ hw1) ?_
  clear hw1
  obtain ⟨gp, hgp⟩ : ∃ gp, gp = w.heap.size := ⟨_, rfl⟩
  rw [← hgp] at hP1 hR1 ⊢
  have hne := RW.ne (l := l) true hR1
  have q0 : w1.cell? ⟨gp, 0, none⟩ = some (.int .i64 0) := by rw [cell_of_row _ _ _ _ _ _ hP1]; rfl
  have q1 : w1.cell? ⟨gp, 1, none⟩ = some (.int .i64 4) := by rw [cell_of_row _ _ _ _ _ _ hP1]; rfl
  have q2 : w1.cell? ⟨gp, 2, none⟩ = some (.int .i64 6) := by rw [cell_of_row _ _ _ _ _ _ hP1]; rfl
  have q3 : w1.cell? ⟨gp, 3, none⟩ = some (.int .i64 9) := by rw [cell_of_row _ _ _ _ _ _ hP1]; rfl
  have q4 : w1.cell? ⟨gp, 4, none⟩ = some (.int .i64 11) := by rw [cell_of_row _ _ _ _ _ _ hP1]; rfl
  have q5 : w1.cell? ⟨gp, 5, none⟩ = some (.int .i64 13) := by rw [cell_of_row _ _ _ _ _ _ hP1]; rfl
  have Y0 := Lib.hid (fun m : RW w1 (gp + 1) l true => m.cell q0 (by omega))
  have Y1 := Lib.hid (fun m : RW w1 (gp + 1) l true => m.cell q1 (by omega))
  have Y2 := Lib.hid (fun m : RW w1 (gp + 1) l true => m.cell q2 (by omega))
  have Y3 := Lib.hid (fun m : RW w1 (gp + 1) l true => m.cell q3 (by omega))
  have Y4 := Lib.hid (fun m : RW w1 (gp + 1) l true => m.cell q4 (by omega))
  have Y5 := Lib.hid (fun m : RW w1 (gp + 1) l true => m.cell q5 (by omega))
  have HQ1 := Lib.hid hq1
  have HGP := Lib.hid hgp
  have HR1 := Lib.hid hR1
  obtain ⟨m0, hm0⟩ : ∃ m0 : RW w1 (gp + 1) l true, w1 = m0.val := ⟨⟨w1, GX.refl _ _, ⟨true, hR1, fun _ => rfl⟩, hR1⟩, rfl⟩
  refine Eq.mp (congrArg _ hm0.symm) ?_
  clear q0 q1 q2 q3 q4 q5 hP1 hR1 hq1 hgp hm0
  have y1 := Y1.out m0
  go_wp2_with fail
  with_reducible refine (numP_r m0 4 2 (by decide) (by decide) (by decide) (by decide) hl (fun _ => HS.out _ _ (by decide))).mono ?_
  rintro e w' ⟨rfl, m1, rfl⟩
  clear y1
  go_upto_region 7 with (fail)
  have y0 := Y0.out
  have y2 := Y2.out
  refine wp_region_r m1 (by kernel_rfl) (by kernel_rfl) ?_
  (repeat (go_big_quiet_step (first | (go_at_call 38; exact numP_r _ _ _ (by decide) (by decide) (by decide) (by decide) hl (fun _ => HS.out _ _ (by decide))) | (go_at_call 18; exact calls_r (From_any _ _ _ _)))))
  refine wpQuiet_nil ?_
  rintro wx ⟨m2, rfl⟩
  clear y0 y2
  rw [HE.out]
  have hfb := fromI_bd (nv l 0 4) (nv l 4 2) (nv l 6 2)
  have hTT := HTT.out
  generalize hFF : fromI (nv l 0 4) (nv l 4 2) (nv l 6 2) = F0 at *
  have HFF := Lib.hid hFF
  have HTT := Lib.hid hTT
  clear hFF hTT
  go_upto_region 8 with (fail)
  have y3 := Y3.out
  have y4 := Y4.out
  have y5 := Y5.out
  have b3 := nv_bd l 9 2 (.inl rfl)
  have b4 := nv_bd l 11 2 (.inl rfl)
  have b5 := nv_bd l 13 2 (.inl rfl)
  refine wp_region_r m2 (by kernel_rfl) (by kernel_rfl) ?_
  (repeat (go_big_quiet_step ((go_at_call 38; exact numP_r _ _ _ (by decide) (by decide) (by decide) (by decide) hl (fun _ => HS.out _ _ (by decide))))))
  refine wpQuiet_nil ?_
  rintro wx ⟨m3, rfl⟩
  clear y3 y4 y5
  rw [HTT.out]
  clear b3 b4 b5
  obtain ⟨bb, hrd, hbt⟩ := m3.rd
  obtain rfl : bb = true := hbt rfl
  have c1 := hrd.c1
  have hq3 : Q w m3.val := m3.gx.toQ HQ1.out (by intro x hx; simp at hx; have := HGP.out; omega)
  have HQ3 := Lib.hid hq3
  clear hrd hq3 hbt
  go_wp2_with fail
  with_reducible refine (Stamp_ok t _ (HTB.out.q HQ3.out) h0 h1).mono ?_
  rintro e w4 ⟨rfl, hq4⟩
  rw [HT0.out]
  have HQ4 := Lib.hid (HQ3.out.trans hq4)
  clear hq4
  go_wp2_with fail
  go_ret2
  exact ⟨t, 0, rfl, .inl ⟨rfl, ⟨h0, h1⟩, HT0.out⟩, HQ4.out⟩
end Go.Proofs.YthcndiaomkjjpaaDoor
