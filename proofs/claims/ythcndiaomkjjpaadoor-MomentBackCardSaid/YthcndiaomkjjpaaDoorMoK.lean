/- Reading a stamp. -/
import Derived.Test.YthcndiaomkjjpaaDoorMoJ
set_option linter.unusedVariables false
namespace Go.Proofs.YthcndiaomkjjpaaDoor
open Go Go.RowKit
theorem fromI_bd (Y m d : Int) : 0 ≤ fromI Y m d ∧ fromI Y m d ≤ 253402300800 := by
  unfold fromI
  cases h : vldB Y m d
  · simp
  · obtain ⟨v1, v2, v3, v4, v5, v6⟩ := of_decide_eq_true h
    have hz := dayZ_J Y d (m - 1).toNat (by omega)
    rw [show (((m - 1).toNat : Nat) : Int) + 1 = m from by omega] at hz
    have hc : Civ (dayZ Y m d) Y (m - 1).toNat d := ⟨by omega, v5, by rw [show (((m - 1).toNat : Nat) : Int) + 1 = m from by omega]; exact v6, hz⟩
    have h1 := hc.lo
    have h2 := hc.hi
    have h3 : 719468 ≤ J Y := by
      rcases Int.lt_or_eq_of_le v1 with e | e
      · have := J_mono _ _ e; rw [J_1970] at this; omega
      · rw [← e, J_1970]; omega
    have h4 : J (Y + 1) ≤ 3652365 := by
      rcases Int.lt_or_eq_of_le (show Y + 1 ≤ 10000 from by omega) with e | e
      · have := J_mono _ _ e; rw [J_10000] at this; omega
      · rw [e, J_10000]; omega
    simp only [if_true]
    omega
/-- What a reader answers: the moment that is told so, or that there is none. -/
def RdSays (l : List UInt8) (TL : Int → List UInt8) (r e : Int) : Prop :=
  (e = 0 ∧ (0 ≤ r ∧ r ≤ 253402300799) ∧ TL r = l) ∨ (e = 51 ∧ r = 0 ∧ ∀ t, 0 ≤ t → t ≤ 253402300799 → TL t ≠ l)
def ReadPost (l : List UInt8) (TL : Int → List UInt8) (w : World) (e : Ending) (w' : World) : Prop := ∃ r x, e = .returned (.tuple #[.int .i64 r, .int .i64 x]) ∧ RdSays l TL r x ∧ Q w w'
set_option maxRecDepth 100000 in
set_option maxHeartbeats 4000000 in
/-- No moment is told so. -/
theorem readStamp_no (l : List UInt8) (w : World) (ht : Tab w) (hl : l.length ≤ 140737488355328) (hno : ∀ t, 0 ≤ t → t ≤ 253402300799 → stampL t ≠ l) :
    Calls Tryd.prog 33 #[.string ⟨l.toArray⟩, .agg #[.int .i64 0, .int .i64 4, .int .i64 6, .int .i64 9, .int .i64 11, .int .i64 13], .func (.func 9) #[] #[]] w (ReadPost l stampL w) := by
  have HNO := Lib.hid hno
  have HTB := Lib.hid ht
  clear hno ht
  go_enter Tryd.func33, Tryd.ntmps33
  go_upto_region 3 with (fail)
  obtain ⟨w1, hw1, hP1, hR1, hq1⟩ : ∃ w1, w1 = (w.alloc (.cells #[.int .i64 0, .int .i64 4, .int .i64 6, .int .i64 9, .int .i64 11, .int .i64 13] 47)).alloc (.cells #[.string ⟨l.toArray⟩, .bool true] 53) ∧
      w1.heap[w.heap.size]? = some (.cells #[.int .i64 0, .int .i64 4, .int .i64 6, .int .i64 9, .int .i64 11, .int .i64 13] 47 (0, 0)) ∧ ReadAt w1 (w.heap.size + 1) l true ∧ Q w w1 :=
    ⟨_, rfl, heap_alloc2_old _ _ _, heap_alloc2_new _ _ _, ((Q.refl w).alloc _).alloc _⟩
  refine Eq.mp (congrArg _ hw1) ?_
  clear hw1
  obtain ⟨gp, hgp⟩ : ∃ gp, gp = w.heap.size := ⟨_, rfl⟩
  rw [← hgp] at hP1 hR1 ⊢
  have hne := RW.ne (l := l) false hR1
  have q0 : w1.cell? ⟨gp, 0, none⟩ = some (.int .i64 0) := by rw [cell_of_row _ _ _ _ _ _ hP1]; rfl
  have q1 : w1.cell? ⟨gp, 1, none⟩ = some (.int .i64 4) := by rw [cell_of_row _ _ _ _ _ _ hP1]; rfl
  have q2 : w1.cell? ⟨gp, 2, none⟩ = some (.int .i64 6) := by rw [cell_of_row _ _ _ _ _ _ hP1]; rfl
  have q3 : w1.cell? ⟨gp, 3, none⟩ = some (.int .i64 9) := by rw [cell_of_row _ _ _ _ _ _ hP1]; rfl
  have q4 : w1.cell? ⟨gp, 4, none⟩ = some (.int .i64 11) := by rw [cell_of_row _ _ _ _ _ _ hP1]; rfl
  have q5 : w1.cell? ⟨gp, 5, none⟩ = some (.int .i64 13) := by rw [cell_of_row _ _ _ _ _ _ hP1]; rfl
  have Y0 := Lib.hid (fun m : RW w1 (gp + 1) l false => m.cell q0 (by omega))
  have Y1 := Lib.hid (fun m : RW w1 (gp + 1) l false => m.cell q1 (by omega))
  have Y2 := Lib.hid (fun m : RW w1 (gp + 1) l false => m.cell q2 (by omega))
  have Y3 := Lib.hid (fun m : RW w1 (gp + 1) l false => m.cell q3 (by omega))
  have Y4 := Lib.hid (fun m : RW w1 (gp + 1) l false => m.cell q4 (by omega))
  have Y5 := Lib.hid (fun m : RW w1 (gp + 1) l false => m.cell q5 (by omega))
  have HQ1 := Lib.hid hq1
  have HGP := Lib.hid hgp
  have HR1 := Lib.hid hR1
  obtain ⟨m0, hm0⟩ : ∃ m0 : RW w1 (gp + 1) l false, w1 = m0.val := ⟨⟨w1, GX.refl _ _, ⟨true, hR1, fun _ => rfl⟩, hR1⟩, rfl⟩
  refine Eq.mp (congrArg _ hm0.symm) ?_
  clear q0 q1 q2 q3 q4 q5 hP1 hR1 hq1 hgp hm0
  have y1 := Y1.out m0
  go_wp2_with fail
  with_reducible refine (numP_r m0 4 2 (by decide) (by decide) (by decide) (by decide) hl (fun h => by cases h)).mono ?_
  rintro e w' ⟨rfl, m1, rfl⟩
  clear y1
  go_upto_region 7 with (fail)
  have y0 := Y0.out
  have y2 := Y2.out
  refine wp_region_r m1 (by kernel_rfl) (by kernel_rfl) ?_
  (repeat (go_big_quiet_step (first | (go_at_call 38; exact numP_r _ _ _ (by decide) (by decide) (by decide) (by decide) hl (fun h => by cases h)) | (go_at_call 18; exact calls_r (From_any _ _ _ _)))))
  refine wpQuiet_nil ?_
  rintro wx ⟨m2, rfl⟩
  clear y0 y2
  have hfb := fromI_bd (nv l 0 4) (nv l 4 2) (nv l 6 2)
  have heb : fromE (nv l 0 4) (nv l 4 2) (nv l 6 2) = 0 ∨ fromE (nv l 0 4) (nv l 4 2) (nv l 6 2) = 1 := by unfold fromE; split <;> simp
  generalize fromI (nv l 0 4) (nv l 4 2) (nv l 6 2) = F0 at *
  generalize fromE (nv l 0 4) (nv l 4 2) (nv l 6 2) = E0 at *
  go_upto_region 8 with (fail)
  have y3 := Y3.out
  have y4 := Y4.out
  have y5 := Y5.out
  have b3 := nv_bd l 9 2 (.inl rfl)
  have b4 := nv_bd l 11 2 (.inl rfl)
  have b5 := nv_bd l 13 2 (.inl rfl)
  refine wp_region_r m2 (by kernel_rfl) (by kernel_rfl) ?_
  (repeat (go_big_quiet_step ((go_at_call 38; exact numP_r _ _ _ (by decide) (by decide) (by decide) (by decide) hl (fun h => by cases h)))))
  refine wpQuiet_nil ?_
  rintro wx ⟨m3, rfl⟩
  clear y3 y4 y5
  have htb : -1 ≤ F0 + (3600 * nv l 9 2 + 60 * nv l 11 2 + nv l 13 2) := by omega
  obtain ⟨T, hT⟩ : ∃ T, F0 + (3600 * nv l 9 2 + 60 * nv l 11 2 + nv l 13 2) = T := ⟨_, rfl⟩
  have htb2 : 0 ≤ T ∧ T ≤ 253500000000 := by omega
  rw [hT]
  clear hT htb b3 b4 b5
  obtain ⟨bb, hrd, _⟩ := m3.rd
  have c1 := hrd.c1
  have hq3 : Q w m3.val := m3.gx.toQ HQ1.out (by intro x hx; simp at hx; have := HGP.out; omega)
  have HQ3 := Lib.hid hq3
  clear hrd hq3
  have no : RdSays l stampL 0 51 := .inr ⟨rfl, rfl, HNO.out⟩
  have NO := Lib.hid no
  clear no
  cases bb
  · go_wp2_with fail
    go_ret2
    exact ⟨0, 51, rfl, NO.out, HQ3.out⟩
  · rcases heb with rfl | rfl
    · by_cases hT1 : T ≤ 253402300799
      · go_wp2_with fail
        with_reducible refine (Stamp_ok T _ (HTB.out.q HQ3.out) htb2.1 hT1).mono ?_
        rintro e w4 ⟨rfl, hq4⟩
        have hne2 := HNO.out T htb2.1 hT1
        generalize stampL T = S at *
        have tne : (S == l) = false := by simpa using hne2
        clear hne2
        go_wp2_with fail
        go_ret2
        exact ⟨0, 51, rfl, NO.out, HQ3.out.trans hq4⟩
      · go_wp2_with fail
        with_reducible refine (Stamp_no T _ (.inr (by omega))).mono ?_
        rintro e w4 ⟨rfl, rfl⟩
        go_wp2_with fail
        go_ret2
        exact ⟨0, 51, rfl, NO.out, HQ3.out⟩
    · go_wp2_with fail
      go_ret2
      exact ⟨0, 51, rfl, NO.out, HQ3.out⟩
end Go.Proofs.YthcndiaomkjjpaaDoor
