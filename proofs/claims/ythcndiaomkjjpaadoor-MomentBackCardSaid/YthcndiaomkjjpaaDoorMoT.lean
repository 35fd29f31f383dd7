/- Reading a web text. -/
import Derived.Test.YthcndiaomkjjpaaDoorMoS
import Derived.Test.YthcndiaomkjjpaaDoorMoK
set_option linter.unusedVariables false
namespace Go.Proofs.YthcndiaomkjjpaaDoor
open Go Go.RowKit
theorem idx_months (p : List UInt8) (w : World) (h : ML w) : Calls Tryd.prog 39 #[.string ⟨#[74, 97, 110, 70, 101, 98, 77, 97, 114, 65, 112, 114, 77, 97, 121, 74, 117, 110, 74, 117, 108, 65, 117, 103, 83, 101, 112, 79, 99, 116, 78, 111, 118, 68, 101, 99]⟩, .string ⟨p.toArray⟩] w fun e w' => e = .returned (.int .i64 (Lib.index monthsL p)) ∧ w = w' := index_any monthsL p w h (by decide)
set_option maxRecDepth 100000 in
set_option maxHeartbeats 4000000 in
/-- No moment is told so. -/
theorem readWeb_no (l : List UInt8) (w : World) (ht : Tab w) (hl : l.length ≤ 140737488355328) (hml : ML w) (hno : ∀ t, 0 ≤ t → t ≤ 253402300799 → webL t ≠ l) :
    Calls Tryd.prog 33 #[.string ⟨l.toArray⟩, .agg #[.int .i64 12, .int .i64 0, .int .i64 5, .int .i64 17, .int .i64 20, .int .i64 23], .func (.func 11) #[] #[]] w (ReadPost l webL w) := by
  have HML := Lib.hid hml
  have HNO := Lib.hid hno
  have HTB := Lib.hid ht
  clear hno ht hml
  go_enter Tryd.func33, Tryd.ntmps33
  go_upto_region 3 with (fail)
  obtain ⟨w1, hw1, hP1, hR1, hq1⟩ : ∃ w1, w1 = (w.alloc (.cells #[.int .i64 12, .int .i64 0, .int .i64 5, .int .i64 17, .int .i64 20, .int .i64 23] 47)).alloc (.cells #[.string ⟨l.toArray⟩, .bool true] 53) ∧
      w1.heap[w.heap.size]? = some (.cells #[.int .i64 12, .int .i64 0, .int .i64 5, .int .i64 17, .int .i64 20, .int .i64 23] 47 (0, 0)) ∧ ReadAt w1 (w.heap.size + 1) l true ∧ Q w w1 :=
    ⟨_, rfl, heap_alloc2_old _ _ _, heap_alloc2_new _ _ _, ((Q.refl w).alloc _).alloc _⟩
  refine Eq.mp (congrArg _ hw1) ?_
  clear hw1
  obtain ⟨gp, hgp⟩ : ∃ gp, gp = w.heap.size := ⟨_, rfl⟩
  rw [← hgp] at hP1 hR1 ⊢
  have hne := RW.ne (l := l) false hR1
  have q0 : w1.cell? ⟨gp, 0, none⟩ = some (.int .i64 12) := by rw [cell_of_row _ _ _ _ _ _ hP1]; rfl
  have q1 : w1.cell? ⟨gp, 1, none⟩ = some (.int .i64 0) := by rw [cell_of_row _ _ _ _ _ _ hP1]; rfl
  have q2 : w1.cell? ⟨gp, 2, none⟩ = some (.int .i64 5) := by rw [cell_of_row _ _ _ _ _ _ hP1]; rfl
  have q3 : w1.cell? ⟨gp, 3, none⟩ = some (.int .i64 17) := by rw [cell_of_row _ _ _ _ _ _ hP1]; rfl
  have q4 : w1.cell? ⟨gp, 4, none⟩ = some (.int .i64 20) := by rw [cell_of_row _ _ _ _ _ _ hP1]; rfl
  have q5 : w1.cell? ⟨gp, 5, none⟩ = some (.int .i64 23) := by rw [cell_of_row _ _ _ _ _ _ hP1]; rfl
  have Y0 := Lib.hid (fun m : RW w1 (gp + 1) l false => m.cell q0 (by omega))
  have Y1 := Lib.hid (fun m : RW w1 (gp + 1) l false => m.cell q1 (by omega))
  have Y2 := Lib.hid (fun m : RW w1 (gp + 1) l false => m.cell q2 (by omega))
  have Y3 := Lib.hid (fun m : RW w1 (gp + 1) l false => m.cell q3 (by omega))
  have Y4 := Lib.hid (fun m : RW w1 (gp + 1) l false => m.cell q4 (by omega))
  have Y5 := Lib.hid (fun m : RW w1 (gp + 1) l false => m.cell q5 (by omega))
  have HQ1 := Lib.hid hq1
  have HGP := Lib.hid hgp
  have HR1 := Lib.hid hR1
  obtain ⟨m0, hm0⟩ : ∃ m0 : RW w1 (gp + 1) l false, w1 = m0.val := ⟨⟨w1, GX.refl _ _, ⟨true, hR1, fun _ => rfl⟩, hR1⟩, rfl⟩
  refine Eq.mp (congrArg _ hm0.symm) ?_
  clear q0 q1 q2 q3 q4 q5 hP1 hR1 hq1 hgp hm0
  have y1 := Y1.out m0
  by_cases h11 : l.length < 11
  · have t11 : decide (11 ≤ (l.length : Int)) = false := by simp; omega
    have t11b : decide (11 ≤ l.length) = false := by simp; omega
    go_upto_region 7 with (fail)
    clear y1
    have y0 := Y0.out
    have y2 := Y2.out
    refine wp_region_r m0 (by kernel_rfl) (by kernel_rfl) ?_
    (repeat (go_big_quiet_step (first | (go_at_call 38; exact numP_r _ _ _ (by decide) (by decide) (by decide) (by decide) hl (fun h => by cases h)) | (go_at_call 18; exact calls_r (From_any _ _ _ _)))))
    refine wpQuiet_nil ?_
    rintro wx ⟨m2, rfl⟩
    clear y0 y2
    have hfb := fromI_bd (nv l 12 4) (0) (nv l 5 2)
    have heb : fromE (nv l 12 4) (0) (nv l 5 2) = 0 ∨ fromE (nv l 12 4) (0) (nv l 5 2) = 1 := by unfold fromE; split <;> simp
    generalize fromI (nv l 12 4) (0) (nv l 5 2) = F0 at *
    generalize fromE (nv l 12 4) (0) (nv l 5 2) = E0 at *
    go_upto_region 8 with (fail)
    have y3 := Y3.out
    have y4 := Y4.out
    have y5 := Y5.out
    have b3 := nv_bd l 17 2 (.inl rfl)
    have b4 := nv_bd l 20 2 (.inl rfl)
    have b5 := nv_bd l 23 2 (.inl rfl)
    refine wp_region_r m2 (by kernel_rfl) (by kernel_rfl) ?_
    (repeat (go_big_quiet_step ((go_at_call 38; exact numP_r _ _ _ (by decide) (by decide) (by decide) (by decide) hl (fun h => by cases h)))))
    refine wpQuiet_nil ?_
    rintro wx ⟨m3, rfl⟩
    clear y3 y4 y5
    have htb : -1 ≤ F0 + (3600 * nv l 17 2 + 60 * nv l 20 2 + nv l 23 2) := by omega
    obtain ⟨T, hT⟩ : ∃ T, F0 + (3600 * nv l 17 2 + 60 * nv l 20 2 + nv l 23 2) = T := ⟨_, rfl⟩
    have htb2 : 0 ≤ T ∧ T ≤ 253500000000 := by omega
    rw [hT]
    clear hT htb b3 b4 b5
    obtain ⟨bb, hrd, _⟩ := m3.rd
    have c1 := hrd.c1
    have hq3 : Q w m3.val := m3.gx.toQ HQ1.out (by intro x hx; simp at hx; have := HGP.out; omega)
    have HQ3 := Lib.hid hq3
    clear hrd hq3
    have no : RdSays l webL 0 51 := .inr ⟨rfl, rfl, HNO.out⟩
    have NO := Lib.hid no
    clear no
    cases bb
    · go_wp2_with fail
      go_ret2
      exact ⟨0, 51, rfl, NO.out, HQ3.out⟩
    · rcases heb with rfl | rfl
      · by_cases hT1 : T ≤ 253402300799
        · go_wp2_with fail
          with_reducible refine (Web_ok T _ (HTB.out.q HQ3.out) htb2.1 hT1).mono ?_
          rintro e w4 ⟨rfl, hq4⟩
          have hne2 := HNO.out T htb2.1 hT1
          generalize webL T = S at *
          have tne : (S == l) = false := by simpa using hne2
          clear hne2
          go_wp2_with fail
          go_ret2
          exact ⟨0, 51, rfl, NO.out, HQ3.out.trans hq4⟩
        · go_wp2_with fail
          with_reducible refine (Web_no T _ (.inr (by omega))).mono ?_
          rintro e w4 ⟨rfl, rfl⟩
          go_wp2_with fail
          go_ret2
          exact ⟨0, 51, rfl, NO.out, HQ3.out⟩
      · go_wp2_with fail
        go_ret2
        exact ⟨0, 51, rfl, NO.out, HQ3.out⟩
  · have t11 : decide (11 ≤ (l.length : Int)) = true := by simp; omega
    have t11b : decide (11 ≤ l.length) = true := by simp; omega
    have s11 : (11 : Int) ≤ (l.length : Int) := by omega
    have hmm := HML.out.q HQ1.out
    have HMM := Lib.hid (hmm.r m0 (by have := HGP.out; omega))
    clear hmm
    go_wp2_with fail
    with_reducible refine (idx_months _ _ HMM.out).mono ?_
    rintro e w' ⟨rfl, rfl⟩
    generalize Lib.index monthsL (sub l 8 11) = I at *
    clear y1
    go_upto_region 7 with (fail)
    obtain ⟨Mv, hMv⟩ : ∃ Mv, wrap64 (wrap64 (I.tdiv 3) + 1) = Mv := ⟨_, rfl⟩
    rw [hMv]
    clear hMv
    have y0 := Y0.out
    have y2 := Y2.out
    refine wp_region_r m0 (by kernel_rfl) (by kernel_rfl) ?_
    (repeat (go_big_quiet_step (first | (go_at_call 38; exact numP_r _ _ _ (by decide) (by decide) (by decide) (by decide) hl (fun h => by cases h)) | (go_at_call 18; exact calls_r (From_any _ _ _ _)))))
    refine wpQuiet_nil ?_
    rintro wx ⟨m2, rfl⟩
    clear y0 y2
    have hfb := fromI_bd (nv l 12 4) (Mv) (nv l 5 2)
    have heb : fromE (nv l 12 4) (Mv) (nv l 5 2) = 0 ∨ fromE (nv l 12 4) (Mv) (nv l 5 2) = 1 := by unfold fromE; split <;> simp
    generalize fromI (nv l 12 4) (Mv) (nv l 5 2) = F0 at *
    generalize fromE (nv l 12 4) (Mv) (nv l 5 2) = E0 at *
    go_upto_region 8 with (fail)
    have y3 := Y3.out
    have y4 := Y4.out
    have y5 := Y5.out
    have b3 := nv_bd l 17 2 (.inl rfl)
    have b4 := nv_bd l 20 2 (.inl rfl)
    have b5 := nv_bd l 23 2 (.inl rfl)
    refine wp_region_r m2 (by kernel_rfl) (by kernel_rfl) ?_
    (repeat (go_big_quiet_step ((go_at_call 38; exact numP_r _ _ _ (by decide) (by decide) (by decide) (by decide) hl (fun h => by cases h)))))
    refine wpQuiet_nil ?_
    rintro wx ⟨m3, rfl⟩
    clear y3 y4 y5
    have htb : -1 ≤ F0 + (3600 * nv l 17 2 + 60 * nv l 20 2 + nv l 23 2) := by omega
    obtain ⟨T, hT⟩ : ∃ T, F0 + (3600 * nv l 17 2 + 60 * nv l 20 2 + nv l 23 2) = T := ⟨_, rfl⟩
    have htb2 : 0 ≤ T ∧ T ≤ 253500000000 := by omega
    rw [hT]
    clear hT htb b3 b4 b5
    obtain ⟨bb, hrd, _⟩ := m3.rd
    have c1 := hrd.c1
    have hq3 : Q w m3.val := m3.gx.toQ HQ1.out (by intro x hx; simp at hx; have := HGP.out; omega)
    have HQ3 := Lib.hid hq3
    clear hrd hq3
    have no : RdSays l webL 0 51 := .inr ⟨rfl, rfl, HNO.out⟩
    have NO := Lib.hid no
    clear no
    cases bb
    · go_wp2_with fail
      go_ret2
      exact ⟨0, 51, rfl, NO.out, HQ3.out⟩
    · rcases heb with rfl | rfl
      · by_cases hT1 : T ≤ 253402300799
        · go_wp2_with fail
          with_reducible refine (Web_ok T _ (HTB.out.q HQ3.out) htb2.1 hT1).mono ?_
          rintro e w4 ⟨rfl, hq4⟩
          have hne2 := HNO.out T htb2.1 hT1
          generalize webL T = S at *
          have tne : (S == l) = false := by simpa using hne2
          clear hne2
          go_wp2_with fail
          go_ret2
          exact ⟨0, 51, rfl, NO.out, HQ3.out.trans hq4⟩
        · go_wp2_with fail
          with_reducible refine (Web_no T _ (.inr (by omega))).mono ?_
          rintro e w4 ⟨rfl, rfl⟩
          go_wp2_with fail
          go_ret2
          exact ⟨0, 51, rfl, NO.out, HQ3.out⟩
      · go_wp2_with fail
        go_ret2
        exact ⟨0, 51, rfl, NO.out, HQ3.out⟩
set_option maxRecDepth 100000 in
set_option maxHeartbeats 4000000 in
/-- The moment that is told so. -/
theorem readWeb_yes (l : List UInt8) (t : Int) (w : World) (ht : Tab w) (hl : l.length ≤ 140737488355328) (hml : ML w) (h0 : 0 ≤ t) (h1 : t ≤ 253402300799) (ht0 : webL t = l) :
    Calls Tryd.prog 33 #[.string ⟨l.toArray⟩, .agg #[.int .i64 12, .int .i64 0, .int .i64 5, .int .i64 17, .int .i64 20, .int .i64 23], .func (.func 11) #[] #[]] w (ReadPost l webL w) := by
  obtain ⟨hsome, hE, hT0⟩ := readyWeb t h0 h1
  obtain ⟨hlen, hsb, _⟩ := parseWeb t h0 h1
  obtain ⟨_, ⟨m0', m1'⟩, _⟩ := parts_bd t h0 h1
  have hix := (month3 (civM (zI t)) m0' m1').2
  rw [← hsb] at hix
  rw [ht0] at hsome hE hT0 hlen hix
  generalize civM (zI t) = M at *
  have HIX := Lib.hid hix
  have HT0 := Lib.hid ht0
  have HS := Lib.hid hsome
  have HE := Lib.hid hE
  have HTT := Lib.hid hT0
  have HTB := Lib.hid ht
  have HML := Lib.hid hml
  have HLEN := Lib.hid hlen
  clear ht0 hsome hE hT0 ht hml hix hsb hlen
  go_enter Tryd.func33, Tryd.ntmps33
  go_upto_region 3 with (fail)
  obtain ⟨w1, hw1, hP1, hR1, hq1⟩ : ∃ w1, w1 = (w.alloc (.cells #[.int .i64 12, .int .i64 0, .int .i64 5, .int .i64 17, .int .i64 20, .int .i64 23] 47)).alloc (.cells #[.string ⟨l.toArray⟩, .bool true] 53) ∧
      w1.heap[w.heap.size]? = some (.cells #[.int .i64 12, .int .i64 0, .int .i64 5, .int .i64 17, .int .i64 20, .int .i64 23] 47 (0, 0)) ∧ ReadAt w1 (w.heap.size + 1) l true ∧ Q w w1 :=
    ⟨_, rfl, heap_alloc2_old _ _ _, heap_alloc2_new _ _ _, ((Q.refl w).alloc _).alloc _⟩
  refine Eq.mp (congrArg _ hw1) ?_
  clear hw1
  obtain ⟨gp, hgp⟩ : ∃ gp, gp = w.heap.size := ⟨_, rfl⟩
  rw [← hgp] at hP1 hR1 ⊢
  have hne := RW.ne (l := l) true hR1
  have q0 : w1.cell? ⟨gp, 0, none⟩ = some (.int .i64 12) := by rw [cell_of_row _ _ _ _ _ _ hP1]; rfl
  have q1 : w1.cell? ⟨gp, 1, none⟩ = some (.int .i64 0) := by rw [cell_of_row _ _ _ _ _ _ hP1]; rfl
  have q2 : w1.cell? ⟨gp, 2, none⟩ = some (.int .i64 5) := by rw [cell_of_row _ _ _ _ _ _ hP1]; rfl
  have q3 : w1.cell? ⟨gp, 3, none⟩ = some (.int .i64 17) := by rw [cell_of_row _ _ _ _ _ _ hP1]; rfl
  have q4 : w1.cell? ⟨gp, 4, none⟩ = some (.int .i64 20) := by rw [cell_of_row _ _ _ _ _ _ hP1]; rfl
  have q5 : w1.cell? ⟨gp, 5, none⟩ = some (.int .i64 23) := by rw [cell_of_row _ _ _ _ _ _ hP1]; rfl
  have Y0 := Lib.hid (fun m : RW w1 (gp + 1) l true => m.cell q0 (by omega))
  have Y1 := Lib.hid (fun m : RW w1 (gp + 1) l true => m.cell q1 (by omega))
  have Y2 := Lib.hid (fun m : RW w1 (gp + 1) l true => m.cell q2 (by omega))
  have Y3 := Lib.hid (fun m : RW w1 (gp + 1) l true => m.cell q3 (by omega))
  have Y4 := Lib.hid (fun m : RW w1 (gp + 1) l true => m.cell q4 (by omega))
  have Y5 := Lib.hid (fun m : RW w1 (gp + 1) l true => m.cell q5 (by omega))
  have HQ1 := Lib.hid hq1
  have HGP := Lib.hid hgp
  have HR1 := Lib.hid hR1
  obtain ⟨m0, hm0⟩ : ∃ m0 : RW w1 (gp + 1) l true, w1 = m0.val := ⟨⟨w1, GX.refl _ _, ⟨true, hR1, fun _ => rfl⟩, hR1⟩, rfl⟩
  refine Eq.mp (congrArg _ hm0.symm) ?_
  clear q0 q1 q2 q3 q4 q5 hP1 hR1 hq1 hgp hm0
  have y1 := Y1.out m0
  have t11 : decide (11 ≤ (l.length : Int)) = true := by rw [HLEN.out]; decide
  have t11b : decide (11 ≤ l.length) = true := by rw [HLEN.out]; decide
  have s11 : (11 : Int) ≤ (l.length : Int) := by rw [HLEN.out]; decide
  have hmm := HML.out.q HQ1.out
  have HMM := Lib.hid (hmm.r m0 (by have := HGP.out; omega))
  clear hmm
  go_wp2_with fail
  with_reducible refine (idx_months _ _ HMM.out).mono ?_
  rintro e w' ⟨rfl, rfl⟩
  rw [HIX.out]
  clear y1
  have hdiv : 3 * (M - 1) / 3 = M - 1 := by omega
  have hd0 : 0 ≤ 3 * (M - 1) := by omega
  go_upto_region 7 with (fail)
  clear hdiv hd0
  have y0 := Y0.out
  have y2 := Y2.out
  refine wp_region_r m0 (by kernel_rfl) (by kernel_rfl) ?_
  (repeat (go_big_quiet_step (first | (go_at_call 38; exact numP_r _ _ _ (by decide) (by decide) (by decide) (by decide) hl (fun _ => HS.out _ _ (by decide))) | (go_at_call 18; exact calls_r (From_any _ _ _ _)))))
  refine wpQuiet_nil ?_
  rintro wx ⟨m2, rfl⟩
  clear y0 y2
  rw [HE.out]
  have hfb := fromI_bd (nv l 12 4) M (nv l 5 2)
  have hTT := HTT.out
  generalize hFF : fromI (nv l 12 4) M (nv l 5 2) = F0 at *
  have HFF := Lib.hid hFF
  have HTT := Lib.hid hTT
  clear hFF hTT
  go_upto_region 8 with (fail)
  have y3 := Y3.out
  have y4 := Y4.out
  have y5 := Y5.out
  have b3 := nv_bd l 17 2 (.inl rfl)
  have b4 := nv_bd l 20 2 (.inl rfl)
  have b5 := nv_bd l 23 2 (.inl rfl)
  refine wp_region_r m2 (by kernel_rfl) (by kernel_rfl) ?_
  (repeat (go_big_quiet_step ((go_at_call 38; exact numP_r _ _ _ (by decide) (by decide) (by decide) (by decide) hl (fun _ => HS.out _ _ (by decide))))))
  refine wpQuiet_nil ?_
  rintro wx ⟨m3, rfl⟩
  clear y3 y4 y5
  rw [HTT.out]
  clear b3 b4 b5
  obtain ⟨bb, hrd, hbt⟩ := m3.rd
  obtain rfl : bb = true := hbt rfl
  have c1 := hrd.c1
  have hq3 : Q w m3.val := m3.gx.toQ HQ1.out (by intro x hx; simp at hx; have := HGP.out; omega)
  have HQ3 := Lib.hid hq3
  clear hrd hq3 hbt
  go_wp2_with fail
  with_reducible refine (Web_ok t _ (HTB.out.q HQ3.out) h0 h1).mono ?_
  rintro e w4 ⟨rfl, hq4⟩
  rw [HT0.out]
  have HQ4 := Lib.hid (HQ3.out.trans hq4)
  clear hq4
  go_wp2_with fail
  go_ret2
  exact ⟨t, 0, rfl, .inl ⟨rfl, ⟨h0, h1⟩, HT0.out⟩, HQ4.out⟩
end Go.Proofs.YthcndiaomkjjpaaDoor
