/- Texts of this proof, laid into one: MoK, MoL, MoM, UrS, UrJ, UrK. -/
import Derived.Test.YtmmoenbmgcplkaaGreatDoorMn07
import Derived.Shelf.SlSortCmp.WholeK
import Derived.Shelf.SlSortCmp.NoneTotal
import Derived.Maps.AppendAt
/- Reading a stamp. -/
set_option linter.unusedVariables false
namespace Go.Proofs.YtmmoenbmgcplkaaGreatDoor
open Go Go.RowKit
theorem fromI_bd (Y m d : Int) : 0 ≤ fromI Y m d ∧ fromI Y m d ≤ 253402300800 := by
  unfold fromI
  cases h : vldB Y m d
  · simp
  · obtain ⟨v1, v2, v3, v4, v5, v6⟩ := of_decide_eq_true h
    have hz := dayZ_J Y d (m - 1).toNat (by omega)
    rw [show (((m - 1).toNat : Nat) : Int) + 1 = m from by omega] at hz
    have hc : Civ (dayZ Y m d) Y (m - 1).toNat d := ⟨by omega, v5, by rw [show (((m - 1).toNat : Nat) : Int) + 1 = m from by omega]; exact v6, hz⟩
    have h1 := hc.lo
    have h2 := hc.hi
    have h3 : 719468 ≤ J Y := by
      rcases Int.lt_or_eq_of_le v1 with e | e
      · have := J_mono _ _ e; rw [J_1970] at this; omega
      · rw [← e, J_1970]; omega
    have h4 : J (Y + 1) ≤ 3652365 := by
      rcases Int.lt_or_eq_of_le (show Y + 1 ≤ 10000 from by omega) with e | e
      · have := J_mono _ _ e; rw [J_10000] at this; omega
      · rw [e, J_10000]; omega
    simp only [if_true]
    omega
/-- What a reader answers: the moment that is told so, or that there is none. -/
def RdSays (l : List UInt8) (TL : Int → List UInt8) (r e : Int) : Prop :=
  (e = 0 ∧ (0 ≤ r ∧ r ≤ 253402300799) ∧ TL r = l) ∨ (e = 51 ∧ r = 0 ∧ ∀ t, 0 ≤ t → t ≤ 253402300799 → TL t ≠ l)
def ReadPost (l : List UInt8) (TL : Int → List UInt8) (w : World) (e : Ending) (w' : World) : Prop := ∃ r x, e = .returned (.tuple #[.int .i64 r, .int .i64 x]) ∧ RdSays l TL r x ∧ Q w w'
set_option maxRecDepth 100000 in
set_option maxHeartbeats 4000000 in
/-- No moment is told so. -/
theorem readStamp_no (l : List UInt8) (w : World) (ht : Tab w) (hl : l.length ≤ 140737488355328) (hno : ∀ t, 0 ≤ t → t ≤ 253402300799 → stampL t ≠ l) :
    Calls Tryz.prog 130 #[.string ⟨l.toArray⟩, .agg #[.int .i64 0, .int .i64 4, .int .i64 6, .int .i64 9, .int .i64 11, .int .i64 13], .func (.func 24) #[] #[]] w (ReadPost l stampL w) := by
  have HNO := Lib.hid hno
  have HTB := Lib.hid ht
  clear hno ht
  go_enter Tryz.func130, Tryz.ntmps130
  go_upto_region 3 with (fail)
  obtain ⟨w1, hw1, hP1, hR1, hq1⟩ : ∃ w1, w1 = (w.alloc (.cells #[.int .i64 0, .int .i64 4, .int .i64 6, .int .i64 9, .int .i64 11, .int .i64 13] 182)).alloc (.cells #[.string ⟨l.toArray⟩, .bool true] 232) ∧
      w1.heap[w.heap.size]? = some (.cells #[.int .i64 0, .int .i64 4, .int .i64 6, .int .i64 9, .int .i64 11, .int .i64 13] 182 (0, 0)) ∧ ReadAt w1 (w.heap.size + 1) l true ∧ Q w w1 :=
    ⟨_, rfl, heap_alloc2_old _ _ _, heap_alloc2_new _ _ _, ((Q.refl w).alloc _).alloc _⟩
  refine Eq.mp (congrArg _ hw1) ?_
  clear hw1
  obtain ⟨gp, hgp⟩ : ∃ gp, gp = w.heap.size := ⟨_, rfl⟩
  rw [← hgp] at hP1 hR1 ⊢
  have hne := RW.ne (l := l) false hR1
  have q0 : w1.cell? ⟨gp, 0, none⟩ = some (.int .i64 0) := by rw [cell_of_row _ _ _ _ _ _ hP1]; rfl
  have q1 : w1.cell? ⟨gp, 1, none⟩ = some (.int .i64 4) := by rw [cell_of_row _ _ _ _ _ _ hP1]; rfl
  have q2 : w1.cell? ⟨gp, 2, none⟩ = some (.int .i64 6) := by rw [cell_of_row _ _ _ _ _ _ hP1]; rfl
  have q3 : w1.cell? ⟨gp, 3, none⟩ = some (.int .i64 9) := by rw [cell_of_row _ _ _ _ _ _ hP1]; rfl
  have q4 : w1.cell? ⟨gp, 4, none⟩ = some (.int .i64 11) := by rw [cell_of_row _ _ _ _ _ _ hP1]; rfl
  have q5 : w1.cell? ⟨gp, 5, none⟩ = some (.int .i64 13) := by rw [cell_of_row _ _ _ _ _ _ hP1]; rfl
  have Y0 := Lib.hid (fun m : RW w1 (gp + 1) l false => m.cell q0 (by omega))
  have Y1 := Lib.hid (fun m : RW w1 (gp + 1) l false => m.cell q1 (by omega))
  have Y2 := Lib.hid (fun m : RW w1 (gp + 1) l false => m.cell q2 (by omega))
  have Y3 := Lib.hid (fun m : RW w1 (gp + 1) l false => m.cell q3 (by omega))
  have Y4 := Lib.hid (fun m : RW w1 (gp + 1) l false => m.cell q4 (by omega))
  have Y5 := Lib.hid (fun m : RW w1 (gp + 1) l false => m.cell q5 (by omega))
  have HQ1 := Lib.hid hq1
  have HGP := Lib.hid hgp
  have HR1 := Lib.hid hR1
  obtain ⟨m0, hm0⟩ : ∃ m0 : RW w1 (gp + 1) l false, w1 = m0.val := ⟨⟨w1, GX.refl _ _, ⟨true, hR1, fun _ => rfl⟩, hR1⟩, rfl⟩
  refine Eq.mp (congrArg _ hm0.symm) ?_
  clear q0 q1 q2 q3 q4 q5 hP1 hR1 hq1 hgp hm0
  have y1 := Y1.out m0
  go_wp2_with fail
  with_reducible refine (numP_r m0 4 2 (by decide) (by decide) (by decide) (by decide) hl (fun h => by cases h)).mono ?_
  rintro e w' ⟨rfl, m1, rfl⟩
  clear y1
  go_upto_region 7 with (fail)
  have y0 := Y0.out
  have y2 := Y2.out
  refine wp_region_r m1 (by kernel_rfl) (by kernel_rfl) ?_
  (repeat (go_big_quiet_step (first | (go_at_call 170; exact numP_r _ _ _ (by decide) (by decide) (by decide) (by decide) hl (fun h => by cases h)) | (go_at_call 172; exact calls_r (From_any _ _ _ _)))))
  refine wpQuiet_nil ?_
  rintro wx ⟨m2, rfl⟩
  clear y0 y2
  have hfb := fromI_bd (nv l 0 4) (nv l 4 2) (nv l 6 2)
  have heb : fromE (nv l 0 4) (nv l 4 2) (nv l 6 2) = 0 ∨ fromE (nv l 0 4) (nv l 4 2) (nv l 6 2) = 1 := by unfold fromE; split <;> simp
  generalize fromI (nv l 0 4) (nv l 4 2) (nv l 6 2) = F0 at *
  generalize fromE (nv l 0 4) (nv l 4 2) (nv l 6 2) = E0 at *
  go_upto_region 8 with (fail)
  have y3 := Y3.out
  have y4 := Y4.out
  have y5 := Y5.out
  have b3 := nv_bd l 9 2 (.inl rfl)
  have b4 := nv_bd l 11 2 (.inl rfl)
  have b5 := nv_bd l 13 2 (.inl rfl)
  refine wp_region_r m2 (by kernel_rfl) (by kernel_rfl) ?_
  (repeat (go_big_quiet_step ((go_at_call 170; exact numP_r _ _ _ (by decide) (by decide) (by decide) (by decide) hl (fun h => by cases h)))))
  refine wpQuiet_nil ?_
  rintro wx ⟨m3, rfl⟩
  clear y3 y4 y5
  have htb : -1 ≤ F0 + (3600 * nv l 9 2 + 60 * nv l 11 2 + nv l 13 2) := by omega
  obtain ⟨T, hT⟩ : ∃ T, F0 + (3600 * nv l 9 2 + 60 * nv l 11 2 + nv l 13 2) = T := ⟨_, rfl⟩
  have htb2 : 0 ≤ T ∧ T ≤ 253500000000 := by omega
  rw [hT]
  clear hT htb b3 b4 b5
  obtain ⟨bb, hrd, _⟩ := m3.rd
  have c1 := hrd.c1
  have hq3 : Q w m3.val := m3.gx.toQ HQ1.out (by intro x hx; simp at hx; have := HGP.out; omega)
  have HQ3 := Lib.hid hq3
  clear hrd hq3
  have no : RdSays l stampL 0 51 := .inr ⟨rfl, rfl, HNO.out⟩
  have NO := Lib.hid no
  clear no
  cases bb
  · go_wp2_with fail
    go_ret2
    exact ⟨0, 51, rfl, NO.out, HQ3.out⟩
  · rcases heb with rfl | rfl
    · by_cases hT1 : T ≤ 253402300799
      · go_wp2_with fail
        with_reducible refine (Stamp_ok T _ (HTB.out.q HQ3.out) htb2.1 hT1).mono ?_
        rintro e w4 ⟨rfl, hq4⟩
        have hne2 := HNO.out T htb2.1 hT1
        generalize stampL T = S at *
        have tne : (S == l) = false := by simpa using hne2
        clear hne2
        go_wp2_with fail
        go_ret2
        exact ⟨0, 51, rfl, NO.out, HQ3.out.trans hq4⟩
      · go_wp2_with fail
        with_reducible refine (Stamp_no T _ (.inr (by omega))).mono ?_
        rintro e w4 ⟨rfl, rfl⟩
        go_wp2_with fail
        go_ret2
        exact ⟨0, 51, rfl, NO.out, HQ3.out⟩
    · go_wp2_with fail
      go_ret2
      exact ⟨0, 51, rfl, NO.out, HQ3.out⟩
end Go.Proofs.YtmmoenbmgcplkaaGreatDoor
/- What is read of a stamp, of a long text. -/
set_option linter.unusedVariables false
namespace Go.Proofs.YtmmoenbmgcplkaaGreatDoor
open Go Go.RowKit
theorem dc_range (n : Int) : 48 ≤ (dc n).toNat ∧ (dc n).toNat ≤ 57 := by have := dc_toNat n; omega
theorem numK_1 (l : List UInt8) (a k : Nat) (x n : Int) (h : numK l a k = some x) (hl : a + k < l.length) (hg : gB l (a + k) = dc n) : numK l a (k + 1) = some (10 * x + n % 10) := by
  have hr := dc_range n
  have ht := dc_toNat n
  rw [numK_step l a k x h hl (by rw [hg]; exact hr.1) (by rw [hg]; exact hr.2), hg]
  congr 1
  omega
theorem numK_d2 (l : List UInt8) (a : Nat) (n : Int) (h0 : 0 ≤ n) (h1 : n < 100) (hl : a + 1 < l.length) (g0 : gB l a = dc (n / 10)) (g1 : gB l (a + 1) = dc n) : numK l a 2 = some n := by
  have s0 : numK l a 0 = some 0 := rfl
  have s1 := numK_1 l a 0 0 (n / 10) s0 (by omega) g0
  have s2 := numK_1 l a 1 _ n s1 (by omega) g1
  rw [s2]
  congr 1
  omega
theorem numK_d4 (l : List UInt8) (a : Nat) (n : Int) (h0 : 0 ≤ n) (h1 : n < 10000) (hl : a + 3 < l.length) (g0 : gB l a = dc (n / 1000)) (g1 : gB l (a + 1) = dc (n / 100)) (g2 : gB l (a + 2) = dc (n / 10)) (g3 : gB l (a + 3) = dc n) : numK l a 4 = some n := by
  have s0 : numK l a 0 = some 0 := rfl
  have s1 := numK_1 l a 0 0 (n / 1000) s0 (by omega) g0
  have s2 := numK_1 l a 1 _ (n / 100) s1 (by omega) g1
  have s3 := numK_1 l a 2 _ (n / 10) s2 (by omega) g2
  have s4 := numK_1 l a 3 _ n s3 (by omega) g3
  rw [s4]
  congr 1
  omega
theorem vld_civ (t : Int) (h0 : 0 ≤ t) (h1 : t ≤ 253402300799) : vldB (civY (zI t)) (civM (zI t)) (civD (zI t)) = true := by
  obtain ⟨⟨y0, y1⟩, ⟨m0, m1⟩, ⟨d0, d1⟩, _⟩ := parts_bd t h0 h1
  have h := civ_ok (zI t) (by unfold zI; omega)
  exact decide_eq_true ⟨y0, y1, m0, m1, d0, h.2.2.2.1⟩
theorem fromI_civ (t : Int) (h0 : 0 ≤ t) (h1 : t ≤ 253402300799) : fromI (civY (zI t)) (civM (zI t)) (civD (zI t)) = t / 86400 * 86400 ∧ fromE (civY (zI t)) (civM (zI t)) (civD (zI t)) = 0 := by
  have hv := vld_civ t h0 h1
  have h := civ_ok (zI t) (by unfold zI; omega)
  unfold fromI fromE
  rw [if_pos hv, if_pos hv, h.2.2.2.2]
  exact ⟨by unfold zI; omega, rfl⟩
theorem sum_back (t : Int) (h0 : 0 ≤ t) : t / 86400 * 86400 + (3600 * hoI t + 60 * miI t + seI t) = t := by unfold hoI miI seI; omega
def posS : List (Int × Int) := [(0, 4), (4, 2), (6, 2), (9, 2), (11, 2), (13, 2)]
def posL : List (Int × Int) := [(0, 4), (5, 2), (8, 2), (11, 2), (14, 2), (17, 2)]
set_option maxHeartbeats 2000000 in
theorem parseStamp (t : Int) (h0 : 0 ≤ t) (h1 : t ≤ 253402300799) : (∀ a k : Int, (a, k) ∈ posS → (numK (stampL t) a.toNat k.toNat).isSome = true) ∧ nv (stampL t) 0 4 = civY (zI t) ∧ nv (stampL t) 4 2 = civM (zI t) ∧ nv (stampL t) 6 2 = civD (zI t) ∧ nv (stampL t) 9 2 = hoI t ∧ nv (stampL t) 11 2 = miI t ∧ nv (stampL t) 13 2 = seI t := by
  obtain ⟨⟨y0, y1⟩, ⟨m0, m1⟩, ⟨d0, d1⟩, ⟨o0, o1⟩, ⟨i0, i1⟩, ⟨s0, s1⟩⟩ := parts_bd t h0 h1
  have hl : (stampL t).length = 16 := rfl
  have n0 := numK_d4 (stampL t) 0 (civY (zI t)) (by omega) (by omega) (by omega) rfl rfl rfl rfl
  have n1 := numK_d2 (stampL t) 4 (civM (zI t)) (by omega) (by omega) (by omega) rfl rfl
  have n2 := numK_d2 (stampL t) 6 (civD (zI t)) (by omega) (by omega) (by omega) rfl rfl
  have n3 := numK_d2 (stampL t) 9 (hoI t) (by omega) (by omega) (by omega) rfl rfl
  have n4 := numK_d2 (stampL t) 11 (miI t) (by omega) (by omega) (by omega) rfl rfl
  have n5 := numK_d2 (stampL t) 13 (seI t) (by omega) (by omega) (by omega) rfl rfl
  refine ⟨?_, ?_, ?_, ?_, ?_, ?_, ?_⟩
  · intro a k h
    simp only [posS, List.mem_cons, Prod.mk.injEq, List.not_mem_nil, or_false] at h
    rcases h with ⟨rfl, rfl⟩ | ⟨rfl, rfl⟩ | ⟨rfl, rfl⟩ | ⟨rfl, rfl⟩ | ⟨rfl, rfl⟩ | ⟨rfl, rfl⟩
    · exact congrArg Option.isSome n0
    · exact congrArg Option.isSome n1
    · exact congrArg Option.isSome n2
    · exact congrArg Option.isSome n3
    · exact congrArg Option.isSome n4
    · exact congrArg Option.isSome n5
  · exact congrArg (Option.getD · 0) n0
  · exact congrArg (Option.getD · 0) n1
  · exact congrArg (Option.getD · 0) n2
  · exact congrArg (Option.getD · 0) n3
  · exact congrArg (Option.getD · 0) n4
  · exact congrArg (Option.getD · 0) n5
set_option maxHeartbeats 2000000 in
theorem parseLong (t : Int) (h0 : 0 ≤ t) (h1 : t ≤ 253402300799) : (∀ a k : Int, (a, k) ∈ posL → (numK (longL t) a.toNat k.toNat).isSome = true) ∧ nv (longL t) 0 4 = civY (zI t) ∧ nv (longL t) 5 2 = civM (zI t) ∧ nv (longL t) 8 2 = civD (zI t) ∧ nv (longL t) 11 2 = hoI t ∧ nv (longL t) 14 2 = miI t ∧ nv (longL t) 17 2 = seI t := by
  obtain ⟨⟨y0, y1⟩, ⟨m0, m1⟩, ⟨d0, d1⟩, ⟨o0, o1⟩, ⟨i0, i1⟩, ⟨s0, s1⟩⟩ := parts_bd t h0 h1
  have hl : (longL t).length = 24 := rfl
  have n0 := numK_d4 (longL t) 0 (civY (zI t)) (by omega) (by omega) (by omega) rfl rfl rfl rfl
  have n1 := numK_d2 (longL t) 5 (civM (zI t)) (by omega) (by omega) (by omega) rfl rfl
  have n2 := numK_d2 (longL t) 8 (civD (zI t)) (by omega) (by omega) (by omega) rfl rfl
  have n3 := numK_d2 (longL t) 11 (hoI t) (by omega) (by omega) (by omega) rfl rfl
  have n4 := numK_d2 (longL t) 14 (miI t) (by omega) (by omega) (by omega) rfl rfl
  have n5 := numK_d2 (longL t) 17 (seI t) (by omega) (by omega) (by omega) rfl rfl
  refine ⟨?_, ?_, ?_, ?_, ?_, ?_, ?_⟩
  · intro a k h
    simp only [posL, List.mem_cons, Prod.mk.injEq, List.not_mem_nil, or_false] at h
    rcases h with ⟨rfl, rfl⟩ | ⟨rfl, rfl⟩ | ⟨rfl, rfl⟩ | ⟨rfl, rfl⟩ | ⟨rfl, rfl⟩ | ⟨rfl, rfl⟩
    · exact congrArg Option.isSome n0
    · exact congrArg Option.isSome n1
    · exact congrArg Option.isSome n2
    · exact congrArg Option.isSome n3
    · exact congrArg Option.isSome n4
    · exact congrArg Option.isSome n5
  · exact congrArg (Option.getD · 0) n0
  · exact congrArg (Option.getD · 0) n1
  · exact congrArg (Option.getD · 0) n2
  · exact congrArg (Option.getD · 0) n3
  · exact congrArg (Option.getD · 0) n4
  · exact congrArg (Option.getD · 0) n5
theorem readyStamp (t : Int) (h0 : 0 ≤ t) (h1 : t ≤ 253402300799) : (∀ a k : Int, (a, k) ∈ posS → (numK (stampL t) a.toNat k.toNat).isSome = true) ∧ fromE (nv (stampL t) 0 4) (nv (stampL t) 4 2) (nv (stampL t) 6 2) = 0 ∧ fromI (nv (stampL t) 0 4) (nv (stampL t) 4 2) (nv (stampL t) 6 2) + (3600 * nv (stampL t) 9 2 + 60 * nv (stampL t) 11 2 + nv (stampL t) 13 2) = t := by
  obtain ⟨hs, e0, e1, e2, e3, e4, e5⟩ := parseStamp t h0 h1
  have hf := fromI_civ t h0 h1
  refine ⟨hs, ?_, ?_⟩
  · rw [e0, e1, e2]; exact hf.2
  · rw [e0, e1, e2, e3, e4, e5, hf.1]; exact sum_back t h0
theorem readyLong (t : Int) (h0 : 0 ≤ t) (h1 : t ≤ 253402300799) : (∀ a k : Int, (a, k) ∈ posL → (numK (longL t) a.toNat k.toNat).isSome = true) ∧ fromE (nv (longL t) 0 4) (nv (longL t) 5 2) (nv (longL t) 8 2) = 0 ∧ fromI (nv (longL t) 0 4) (nv (longL t) 5 2) (nv (longL t) 8 2) + (3600 * nv (longL t) 11 2 + 60 * nv (longL t) 14 2 + nv (longL t) 17 2) = t := by
  obtain ⟨hs, e0, e1, e2, e3, e4, e5⟩ := parseLong t h0 h1
  have hf := fromI_civ t h0 h1
  refine ⟨hs, ?_, ?_⟩
  · rw [e0, e1, e2]; exact hf.2
  · rw [e0, e1, e2, e3, e4, e5, hf.1]; exact sum_back t h0
end Go.Proofs.YtmmoenbmgcplkaaGreatDoor
/- Reading the stamps and long texts that moments have. -/
set_option linter.unusedVariables false
namespace Go.Proofs.YtmmoenbmgcplkaaGreatDoor
open Go Go.RowKit
set_option maxRecDepth 100000 in
set_option maxHeartbeats 4000000 in
/-- The moment that is told so. -/
theorem readStamp_yes (l : List UInt8) (t : Int) (w : World) (ht : Tab w) (hl : l.length ≤ 140737488355328) (h0 : 0 ≤ t) (h1 : t ≤ 253402300799) (ht0 : stampL t = l) :
    Calls Tryz.prog 130 #[.string ⟨l.toArray⟩, .agg #[.int .i64 0, .int .i64 4, .int .i64 6, .int .i64 9, .int .i64 11, .int .i64 13], .func (.func 24) #[] #[]] w (ReadPost l stampL w) := by
  obtain ⟨hsome, hE, hT0⟩ := readyStamp t h0 h1
  rw [ht0] at hsome hE hT0
  have HT0 := Lib.hid ht0
  have HS := Lib.hid hsome
  have HE := Lib.hid hE
  have HTT := Lib.hid hT0
  have HTB := Lib.hid ht
  clear ht0 hsome hE hT0 ht
  go_enter Tryz.func130, Tryz.ntmps130
  go_upto_region 3 with (fail)
  obtain ⟨w1, hw1, hP1, hR1, hq1⟩ : ∃ w1, w1 = (w.alloc (.cells #[.int .i64 0, .int .i64 4, .int .i64 6, .int .i64 9, .int .i64 11, .int .i64 13] 182)).alloc (.cells #[.string ⟨l.toArray⟩, .bool true] 232) ∧
      w1.heap[w.heap.size]? = some (.cells #[.int .i64 0, .int .i64 4, .int .i64 6, .int .i64 9, .int .i64 11, .int .i64 13] 182 (0, 0)) ∧ ReadAt w1 (w.heap.size + 1) l true ∧ Q w w1 :=
    ⟨_, rfl, heap_alloc2_old _ _ _, heap_alloc2_new _ _ _, ((Q.refl w).alloc _).alloc _⟩
  refine Eq.mp (congrArg _ hw1) ?_
  clear hw1
  obtain ⟨gp, hgp⟩ : ∃ gp, gp = w.heap.size := ⟨_, rfl⟩
  rw [← hgp] at hP1 hR1 ⊢
  have hne := RW.ne (l := l) true hR1
  have q0 : w1.cell? ⟨gp, 0, none⟩ = some (.int .i64 0) := by rw [cell_of_row _ _ _ _ _ _ hP1]; rfl
  have q1 : w1.cell? ⟨gp, 1, none⟩ = some (.int .i64 4) := by rw [cell_of_row _ _ _ _ _ _ hP1]; rfl
  have q2 : w1.cell? ⟨gp, 2, none⟩ = some (.int .i64 6) := by rw [cell_of_row _ _ _ _ _ _ hP1]; rfl
  have q3 : w1.cell? ⟨gp, 3, none⟩ = some (.int .i64 9) := by rw [cell_of_row _ _ _ _ _ _ hP1]; rfl
  have q4 : w1.cell? ⟨gp, 4, none⟩ = some (.int .i64 11) := by rw [cell_of_row _ _ _ _ _ _ hP1]; rfl
  have q5 : w1.cell? ⟨gp, 5, none⟩ = some (.int .i64 13) := by rw [cell_of_row _ _ _ _ _ _ hP1]; rfl
  have Y0 := Lib.hid (fun m : RW w1 (gp + 1) l true => m.cell q0 (by omega))
  have Y1 := Lib.hid (fun m : RW w1 (gp + 1) l true => m.cell q1 (by omega))
  have Y2 := Lib.hid (fun m : RW w1 (gp + 1) l true => m.cell q2 (by omega))
  have Y3 := Lib.hid (fun m : RW w1 (gp + 1) l true => m.cell q3 (by omega))
  have Y4 := Lib.hid (fun m : RW w1 (gp + 1) l true => m.cell q4 (by omega))
  have Y5 := Lib.hid (fun m : RW w1 (gp + 1) l true => m.cell q5 (by omega))
  have HQ1 := Lib.hid hq1
  have HGP := Lib.hid hgp
  have HR1 := Lib.hid hR1
  obtain ⟨m0, hm0⟩ : ∃ m0 : RW w1 (gp + 1) l true, w1 = m0.val := ⟨⟨w1, GX.refl _ _, ⟨true, hR1, fun _ => rfl⟩, hR1⟩, rfl⟩
  refine Eq.mp (congrArg _ hm0.symm) ?_
  clear q0 q1 q2 q3 q4 q5 hP1 hR1 hq1 hgp hm0
  have y1 := Y1.out m0
  go_wp2_with fail
  with_reducible refine (numP_r m0 4 2 (by decide) (by decide) (by decide) (by decide) hl (fun _ => HS.out _ _ (by decide))).mono ?_
  rintro e w' ⟨rfl, m1, rfl⟩
  clear y1
  go_upto_region 7 with (fail)
  have y0 := Y0.out
  have y2 := Y2.out
  refine wp_region_r m1 (by kernel_rfl) (by kernel_rfl) ?_
  (repeat (go_big_quiet_step (first | (go_at_call 170; exact numP_r _ _ _ (by decide) (by decide) (by decide) (by decide) hl (fun _ => HS.out _ _ (by decide))) | (go_at_call 172; exact calls_r (From_any _ _ _ _)))))
  refine wpQuiet_nil ?_
  rintro wx ⟨m2, rfl⟩
  clear y0 y2
  rw [HE.out]
  have hfb := fromI_bd (nv l 0 4) (nv l 4 2) (nv l 6 2)
  have hTT := HTT.out
  generalize hFF : fromI (nv l 0 4) (nv l 4 2) (nv l 6 2) = F0 at *
  have HFF := Lib.hid hFF
  have HTT := Lib.hid hTT
  clear hFF hTT
  go_upto_region 8 with (fail)
  have y3 := Y3.out
  have y4 := Y4.out
  have y5 := Y5.out
  have b3 := nv_bd l 9 2 (.inl rfl)
  have b4 := nv_bd l 11 2 (.inl rfl)
  have b5 := nv_bd l 13 2 (.inl rfl)
  refine wp_region_r m2 (by kernel_rfl) (by kernel_rfl) ?_
  (repeat (go_big_quiet_step ((go_at_call 170; exact numP_r _ _ _ (by decide) (by decide) (by decide) (by decide) hl (fun _ => HS.out _ _ (by decide))))))
  refine wpQuiet_nil ?_
  rintro wx ⟨m3, rfl⟩
  clear y3 y4 y5
  rw [HTT.out]
  clear b3 b4 b5
  obtain ⟨bb, hrd, hbt⟩ := m3.rd
  obtain rfl : bb = true := hbt rfl
  have c1 := hrd.c1
  have hq3 : Q w m3.val := m3.gx.toQ HQ1.out (by intro x hx; simp at hx; have := HGP.out; omega)
  have HQ3 := Lib.hid hq3
  clear hrd hq3 hbt
  go_wp2_with fail
  with_reducible refine (Stamp_ok t _ (HTB.out.q HQ3.out) h0 h1).mono ?_
  rintro e w4 ⟨rfl, hq4⟩
  rw [HT0.out]
  have HQ4 := Lib.hid (HQ3.out.trans hq4)
  clear hq4
  go_wp2_with fail
  go_ret2
  exact ⟨t, 0, rfl, .inl ⟨rfl, ⟨h0, h1⟩, HT0.out⟩, HQ4.out⟩
end Go.Proofs.YtmmoenbmgcplkaaGreatDoor
/- slices.SortFunc of pairs: the shelf's contract, laid at this seat by names (printed by genslf.py). -/
set_option linter.unusedVariables false
namespace Go.Proofs.YtmmoenbmgcplkaaGreatDoor
open Go Go.RowKit
def lUr_ren : Go.Shelf.Ren := ⟨fun | 6 => 115 | 14 => 160 | 15 => 161 | 20 => 183 | 21 => 184 | 22 => 185 | 23 => 186 | 24 => 187 | 25 => 188 | 26 => 189 | 27 => 190 | 28 => 191 | 29 => 192 | 46 => 207 | 47 => 208 | 48 => 209 | 49 => 210 | 50 => 211 | 57 => 218 | n => n, fun | 0 => 0 | 3 => 3 | 4 => 4 | 5 => 5 | 9 => 9 | 22 => 22 | 24 => 37 | 25 => 158 | 39 => 91 | 45 => 251 | 46 => 252 | 50 => 256 | 53 => 123 | 55 => 146 | 66 => 266 | 70 => 270 | 76 => 276 | 77 => 277 | n => n, fun n => n⟩
theorem lUr6 : Go.Proofs.SlLaysF0.n6 Tryz.prog lUr_ren := {
  mixed := by kernel_rfl
  f6 := ⟨Tryz.f115.name, by decide, Tryz.func115.trans (congrArg some (by kernel_rfl))⟩
  f14 := ⟨Tryz.f160.name, by decide, Tryz.func160.trans (congrArg some (by kernel_rfl))⟩
  f15 := Tryz.func161.trans (congrArg some (by kernel_rfl))
  f20 := ⟨Tryz.f183.name, by decide, Tryz.func183.trans (congrArg some (by kernel_rfl))⟩
  f21 := ⟨Tryz.f184.name, by decide, Tryz.func184.trans (congrArg some (by kernel_rfl))⟩
  f22 := ⟨Tryz.f185.name, by decide, Tryz.func185.trans (congrArg some (by kernel_rfl))⟩
  f23 := ⟨Tryz.f186.name, by decide, Tryz.func186.trans (congrArg some (by kernel_rfl))⟩
  f24 := ⟨Tryz.f187.name, by decide, Tryz.func187.trans (congrArg some (by kernel_rfl))⟩
  f25 := ⟨Tryz.f188.name, by decide, Tryz.func188.trans (congrArg some (by kernel_rfl))⟩
  f26 := ⟨Tryz.f189.name, by decide, Tryz.func189.trans (congrArg some (by kernel_rfl))⟩
  f27 := ⟨Tryz.f190.name, by decide, Tryz.func190.trans (congrArg some (by kernel_rfl))⟩
  f28 := Tryz.func191.trans (congrArg some (by kernel_rfl))
  f29 := Tryz.func192.trans (congrArg some (by kernel_rfl))
  f46 := ⟨Tryz.f207.name, by decide, Tryz.func207.trans (congrArg some (by kernel_rfl))⟩
  f47 := Tryz.func208.trans (congrArg some (by kernel_rfl))
  f48 := Tryz.func209.trans (congrArg some (by kernel_rfl))
  f49 := ⟨Tryz.f210.name, by decide, Tryz.func210.trans (congrArg some (by kernel_rfl))⟩
  f50 := ⟨Tryz.f211.name, by decide, Tryz.func211.trans (congrArg some (by kernel_rfl))⟩
  f57 := ⟨Tryz.f218.name, by decide, Tryz.func218.trans (congrArg some (by kernel_rfl))⟩
  t0 := Tryz.underlying0
  a0 := Tryz.isAgg0
  z0 := Tryz.sizeOf0
  v0 := Tryz.zeroValue0
  t3 := Tryz.underlying3
  a3 := Tryz.isAgg3
  z3 := Tryz.sizeOf3
  v3 := Tryz.zeroValue3
  t4 := Tryz.underlying4
  a4 := Tryz.isAgg4
  z4 := Tryz.sizeOf4
  v4 := Tryz.zeroValue4
  t5 := Tryz.underlying5
  a5 := Tryz.isAgg5
  z5 := Tryz.sizeOf5
  v5 := Tryz.zeroValue5
  t9 := Tryz.underlying9
  a9 := Tryz.isAgg9
  z9 := Tryz.sizeOf9
  v9 := Tryz.zeroValue9
  t22 := Tryz.underlying22
  a22 := Tryz.isAgg22
  z22 := Tryz.sizeOf22
  v22 := Tryz.zeroValue22
  t25 := Tryz.underlying158
  a25 := Tryz.isAgg158
  z25 := Tryz.sizeOf158
  v25 := Tryz.zeroValue158
  t39 := Tryz.underlying91
  a39 := Tryz.isAgg91
  z39 := Tryz.sizeOf91
  v39 := Tryz.zeroValue91
  t45 := Tryz.underlying251
  a45 := Tryz.isAgg251
  z45 := Tryz.sizeOf251
  v45 := Tryz.zeroValue251
  t46 := Tryz.underlying252
  a46 := Tryz.isAgg252
  z46 := Tryz.sizeOf252
  v46 := Tryz.zeroValue252
  t50 := Tryz.underlying256
  a50 := Tryz.isAgg256
  z50 := Tryz.sizeOf256
  v50 := Tryz.zeroValue256
  t53 := Tryz.underlying123
  a53 := Tryz.isAgg123
  z53 := Tryz.sizeOf123
  v53 := Tryz.zeroValue123
  t55 := Tryz.underlying146
  a55 := Tryz.isAgg146
  z55 := Tryz.sizeOf146
  v55 := Tryz.zeroValue146
  t66 := Tryz.underlying266
  a66 := Tryz.isAgg266
  z66 := Tryz.sizeOf266
  v66 := Tryz.zeroValue266
  t70 := Tryz.underlying270
  a70 := Tryz.isAgg270
  z70 := Tryz.sizeOf270
  v70 := Tryz.zeroValue270
  t76 := Tryz.underlying276
  a76 := Tryz.isAgg276
  z76 := Tryz.sizeOf276
  v76 := Tryz.zeroValue276
  t77 := Tryz.underlying277
  a77 := Tryz.isAgg277
  z77 := Tryz.sizeOf277
  v77 := Tryz.zeroValue277
  }
end Go.Proofs.YtmmoenbmgcplkaaGreatDoor
/- Pairs in memory; their order; slices.SortFunc of them. -/
set_option linter.unusedVariables false
set_option linter.unusedSimpArgs false
namespace Go.Proofs.YtmmoenbmgcplkaaGreatDoor
open Go Go.RowKit
abbrev PairD := List UInt8 × List UInt8
def pairL (p : PairD) : List Value := [.string ⟨p.1.toArray⟩, .string ⟨p.2.toArray⟩]
def cellsU (l : List PairD) : List Value := l.flatMap pairL
theorem pairL_len (p : PairD) : (pairL p).length = 2 := rfl
theorem cellsU_len (l : List PairD) : (cellsU l).length = l.length * 2 := by
  induction l with
  | nil => rfl
  | cons p r ih => simp only [cellsU, List.flatMap_cons, List.length_append, pairL_len, List.length_cons] at *; omega
theorem cellsU_app (a b : List PairD) : cellsU (a ++ b) = cellsU a ++ cellsU b := by simp [cellsU]
theorem cellsU_one (p : PairD) : cellsU [p] = pairL p := by simp [cellsU]
theorem cellsU_at (ps : List PairD) : ∀ (j : Nat) (h : j < ps.length) (i : Nat), i < 2 → (cellsU ps)[j * 2 + i]? = (pairL ps[j])[i]? := by
  induction ps with
  | nil => intro j h; simp at h
  | cons p r ih =>
    intro j h i hi
    have e : cellsU (p :: r) = pairL p ++ cellsU r := by simp [cellsU]
    rw [e]
    cases j with
    | zero => rw [Nat.zero_mul, Nat.zero_add, List.getElem?_append_left (by rw [pairL_len]; exact hi)]; rfl
    | succ j =>
      rw [List.getElem?_append_right (by rw [pairL_len]; omega), pairL_len, show (j + 1) * 2 + i - 2 = j * 2 + i by omega, ih j (by simpa using h) i hi]
      rfl
/-- Pairs, in a slice of the call's own. -/
def OwnU (w0 w : World) (v : Value) (l : List PairD) : Prop := w.ownsRow w0.heap.size 37 2 v l.length (cellsU l)
theorem info_pair : (Tryz.prog.info? 37).map (fun i => (i.zero, i.size, i.bytes)) = some (some (.agg #[.string ⟨#[]⟩, .string ⟨#[]⟩]), 2, 32) := by kernel_rfl
theorem infoP : (Tryz.prog.info? 37).map (·.size) = some 2 := by kernel_rfl
theorem OwnU.nil (w0 w : World) : OwnU w0 w (.slice none 0 0) [] := ⟨rfl, .inl ⟨rfl, rfl⟩⟩
theorem OwnU.g {w0 w w' : World} {v : Value} {l : List PairD} {row : Option Nat} (h : OwnU w0 w v l) (hg : w.grownBy w' row) (hr : ∀ k, v.ownBlock = some k → row ≠ some k) : OwnU w0 w' v l := by
  refine ⟨h.1, ?_⟩
  rcases h.2 with h2 | ⟨g, cap, cur, hv, h1, h2, h3⟩
  · exact .inl h2
  · refine .inr ⟨g, cap, cur, hv, h1, ?_, h3⟩
    rw [hg.block g (Array.getElem?_eq_some_iff.1 h2).1 (fun e => hr g (by rw [hv]; rfl) e.symm)]
    exact h2
theorem OwnU.q {w0 w w' : World} {v : Value} {l : List PairD} (h : OwnU w0 w v l) (hq : Q w w') : OwnU w0 w' v l := h.g (hq.gb none) (fun _ _ e => by cases e)
theorem OwnU.block {w0 w : World} {v : Value} {l : List PairD} (h : OwnU w0 w v l) {k : Nat} (hk : v.ownBlock = some k) : w0.heap.size ≤ k ∧ k < w.heap.size ∧ ∃ cur fz, w.heap[k]? = some (.cells cur 37 fz) := by
  rcases h.2 with ⟨rfl, _⟩ | ⟨g, cap, cur, rfl, h1, h2, _⟩
  · cases hk
  · have := (Array.getElem?_eq_some_iff.1 h2).1
    have e : g = k := by simpa [Value.ownBlock] using hk
    subst e
    exact ⟨h1, this, cur, _, h2⟩
/-- Pair j: its cells. -/
theorem OwnU.at {w0 w : World} {v : Value} {l : List PairD} (h : OwnU w0 w v l) : ∃ A cap, v = .slice A l.length cap ∧ l.length ≤ cap ∧ ∀ j (hj : j < l.length), ∃ g, A = some ⟨g, 0, none⟩ ∧ w.cell? ⟨g, j * 2, none⟩ = some (.string ⟨l[j].1.toArray⟩) ∧ w.cell? ⟨g, j * 2 + 1, none⟩ = some (.string ⟨l[j].2.toArray⟩) := by
  rcases h.2 with ⟨rfl, h0⟩ | ⟨g, cap, cur, rfl, hb, hh, hn, hm, hcs, ht⟩
  · exact ⟨none, 0, by rw [h0], by omega, fun j hj => by omega⟩
  · refine ⟨_, cap, rfl, hn, fun j hj => ⟨g, rfl, ?_, ?_⟩⟩
    · have e := cellsU_at l j hj 0 (by omega)
      have e2 : cur[j * 2]? = some (.string ⟨l[j].1.toArray⟩) := by
        rw [← ht, List.getElem?_take, if_pos (by omega)] at e
        rw [← Array.getElem?_toList]; simpa [pairL] using e
      rw [cell_of_row _ _ _ _ _ _ hh]; exact e2
    · have e := cellsU_at l j hj 1 (by omega)
      have e2 : cur[j * 2 + 1]? = some (.string ⟨l[j].2.toArray⟩) := by
        rw [← ht, List.getElem?_take, if_pos (by omega)] at e
        rw [← Array.getElem?_toList]; simpa [pairL] using e
      rw [cell_of_row _ _ _ _ _ _ hh]; exact e2
/-- append(l, p). -/
theorem wpList_append_u {ops : Array Oper} {rest : List Oper} {o : Oper} {a : Act} {R : Exit → Act → World → Prop} (hgd : o.guard = none) (s x : Operand)
    (ho : o.op = .call { callee := .builtin .append, args := #[s, x], argTypes := #[22, 22] })
    (w0 W : World) (v : Value) (ps : List PairD) (p : PairD) (hs : a.eval s = v) (hown : OwnU w0 W v ps) (hx : a.eval x = .slice (some ⟨W.heap.size, 0, none⟩) 1 1) (hq : w0.heap.size ≤ W.heap.size) (hb : (ps.length + 1) * 32 ≤ 140737488355328)
    (h : ∀ v' w', OwnU w0 w' v' (ps ++ [p]) → W.grownBy w' v.ownBlock → wpList Tryz.prog ops R rest (a.put o.dst v') w') : wpList Tryz.prog ops R (o :: rest) a (W.alloc (.cells (pairL p).toArray 37)) := by
  obtain ⟨i, hi, hz, hsz, hby⟩ := info_parts info_pair
  have hown1 : OwnU w0 (W.alloc (.cells (pairL p).toArray 37)) v ps := hown.q ((Q.refl W).alloc _)
  refine wpList_append_own_at (w := W.alloc (.cells (pairL p).toArray 37)) hgd s x 22 ho w0.heap.size 37 i _ 2 32 Tryz.underlying22 hi hz hsz hby rfl (by decide) v ps.length (cellsU ps) hs hown1 ⟨W.heap.size, 0, none⟩ 1 1 (pairL p) hx rfl ?_ ?_ (by unfold maxLen; omega) hb (by simp; omega) ?_
  · intro j u hj
    have e : (Addr.add ⟨W.heap.size, 0, none⟩ j) = ⟨W.heap.size, j, none⟩ := by unfold Addr.add; split <;> simp_all
    rw [e, cell_of_row _ _ _ _ _ _ (MapKept.heap_alloc W _).1]
    simpa using hj
  · intro u hu
    simp only [pairL, List.mem_cons, List.not_mem_nil, or_false] at hu
    rcases hu with rfl | rfl <;> rfl
  · intro v' w' h2 hg _ hb2
    refine h v' w' ?_ ((World.grownBy_alloc W _ _).trans hg)
    unfold OwnU; rw [cellsU_app, cellsU_one, List.length_append]; exact h2
/-- The slice holds these pairs. -/
def PairsAt (w : World) (A : Option Addr) (n : Nat) (ps : List PairD) : Prop :=
  n = ps.length ∧ (0 < n → ∃ g off, A = some ⟨g, off, none⟩ ∧ g < w.heap.size ∧ ∀ j (h : j < ps.length), ∀ i v, (pairL ps[j])[i]? = some v → w.cell? ⟨g, off + j * 2 + i, none⟩ = some v)
theorem PairsAt.q {w w' : World} {A : Option Addr} {n : Nat} {ps : List PairD} (h : PairsAt w A n ps) (hq : Q w w') : PairsAt w' A n ps :=
  ⟨h.1, fun h0 => let ⟨g, off, e, hg, hc⟩ := h.2 h0; ⟨g, off, e, Nat.lt_of_lt_of_le hg hq.size, fun j hj i v hv => hq.cell (hc j hj i v hv)⟩⟩
def gU (ps : List PairD) (j : Nat) : PairD := ps.getD j ([], [])
theorem PairsAt.at {w : World} {A : Option Addr} {n : Nat} {ps : List PairD} (h : PairsAt w A n ps) {j : Nat} (hj : j < n) : ∃ g off, A = some ⟨g, off, none⟩ ∧
    w.cell? ⟨g, off + j * 2, none⟩ = some (.string ⟨(gU ps j).1.toArray⟩) ∧ w.cell? ⟨g, off + j * 2 + 1, none⟩ = some (.string ⟨(gU ps j).2.toArray⟩) := by
  obtain ⟨g, off, e, hg, hc⟩ := h.2 (by omega)
  have hj' : j < ps.length := by rw [← h.1]; exact hj
  have hp : ps[j] = gU ps j := by simp [gU, List.getD, hj']
  have := hc j hj'
  rw [hp] at this
  exact ⟨g, off, e, this 0 _ rfl, this 1 _ rfl⟩
theorem OwnU.pairs {w0 w : World} {v : Value} {l : List PairD} (h : OwnU w0 w v l) : ∃ A cap, v = .slice A l.length cap ∧ l.length ≤ cap ∧ PairsAt w A l.length l := by
  rcases h.2 with ⟨rfl, h0⟩ | ⟨g, cap, cur, rfl, hb, hh, hn, hm, hcs, ht⟩
  · exact ⟨none, 0, by rw [h0], by omega, rfl, fun h => by omega⟩
  · refine ⟨_, cap, rfl, hn, rfl, fun _ => ⟨g, 0, rfl, lt_of_heap hh, fun j hj i v hv => ?_⟩⟩
    have hi : i < 2 := by have := (List.getElem?_eq_some_iff.1 hv).1; simpa [pairL] using this
    have e := cellsU_at l j hj i hi
    rw [← ht, List.getElem?_take, if_pos (by omega), Array.getElem?_toList] at e
    rw [Nat.zero_add, cell_of_row _ _ _ _ _ _ hh, e]; exact hv
/-! The order. -/
theorem cb_lt : ∀ a b : List UInt8, Lib.compareBytes a b < 0 ↔ a < b := by
  intro a
  induction a with
  | nil => intro b; cases b <;> simp [Lib.compareBytes]
  | cons x a ih =>
    intro b
    cases b with
    | nil => simp [Lib.compareBytes]
    | cons y b =>
      unfold Lib.compareBytes
      rw [List.cons_lt_cons_iff]
      by_cases h1 : x < y
      · simp [h1]
      · rw [if_neg h1]
        by_cases h2 : y < x
        · rw [if_pos h2]
          have : x ≠ y := fun e => by subst e; exact absurd h2 (UInt8.lt_irrefl x)
          simp [h1, this]
        · rw [if_neg h2, ih]
          have : x = y := UInt8.le_antisymm (UInt8.not_lt.1 h2) (UInt8.not_lt.1 h1)
          simp [h1, this]
theorem cb_zero : ∀ a b : List UInt8, Lib.compareBytes a b = 0 ↔ a = b := by
  intro a
  induction a with
  | nil => intro b; cases b <;> simp [Lib.compareBytes]
  | cons x a ih =>
    intro b
    cases b with
    | nil => simp [Lib.compareBytes]
    | cons y b =>
      unfold Lib.compareBytes
      by_cases h1 : x < y
      · have : x ≠ y := fun e => by subst e; exact absurd h1 (UInt8.lt_irrefl x)
        simp [h1, this]
      · rw [if_neg h1]
        by_cases h2 : y < x
        · have : x ≠ y := fun e => by subst e; exact absurd h2 (UInt8.lt_irrefl x)
          simp [h2, this]
        · rw [if_neg h2, ih]
          have : x = y := UInt8.le_antisymm (UInt8.not_lt.1 h2) (UInt8.not_lt.1 h1)
          simp [this]
def pcmp (a b : PairD) : Int := if Lib.compareBytes a.1 b.1 ≠ 0 then Lib.compareBytes a.1 b.1 else Lib.compareBytes a.2 b.2
theorem pcmp_lt (a b : PairD) : pcmp a b < 0 ↔ a.1 < b.1 ∨ (a.1 = b.1 ∧ a.2 < b.2) := by
  unfold pcmp
  by_cases h : a.1 = b.1
  · rw [if_neg (by rw [Decidable.not_not, cb_zero]; exact h), cb_lt]
    have : ¬ b.1 < b.1 := List.lt_irrefl _
    simp [h, this]
  · rw [if_pos (fun e => h ((cb_zero _ _).1 e)), cb_lt]
    simp [h]
theorem swo_pair : Sort.SWO (ltOf pcmp) where
  irrefl x := by
    unfold ltOf; rw [decide_eq_false_iff_not, pcmp_lt]
    rintro (h | ⟨_, h⟩) <;> exact absurd h (List.lt_irrefl _)
  trans x y z h1 h2 := by
    unfold ltOf at *
    rw [decide_eq_true_eq, pcmp_lt] at *
    rcases h1 with h1 | ⟨e1, h1⟩ <;> rcases h2 with h2 | ⟨e2, h2⟩
    · exact .inl (List.lt_trans h1 h2)
    · exact .inl (e2 ▸ h1)
    · exact .inl (e1 ▸ h2)
    · exact .inr ⟨e1.trans e2, List.lt_trans h1 h2⟩
  ntrans x y z h1 h2 := by
    unfold ltOf at *
    rw [decide_eq_false_iff_not, pcmp_lt] at *
    rintro (h | ⟨e, h⟩)
    · by_cases e1 : x.1 = y.1
      · by_cases e2 : y.1 = z.1
        · rw [e1, e2] at h; exact List.lt_irrefl _ h
        · have a2 : ¬ y.1 < z.1 := fun h' => h2 (.inl h')
          exact a2 (e1 ▸ h)
      · have a1 : ¬ x.1 < y.1 := fun h' => h1 (.inl h')
        have b1 : y.1 < x.1 := List.not_le.1 (fun hle => e1 (List.le_antisymm hle (List.not_lt.1 a1)))
        exact h2 (.inl (List.lt_trans b1 h))
    · by_cases e1 : x.1 = y.1
      · have a1 : ¬ x.2 < y.2 := fun h' => h1 (.inr ⟨e1, h'⟩)
        have a2 : ¬ y.2 < z.2 := fun h' => h2 (.inr ⟨e1 ▸ e, h'⟩)
        exact absurd h (List.not_lt.2 (List.le_trans (List.not_lt.1 a2) (List.not_lt.1 a1)))
      · have a1 : ¬ x.1 < y.1 := fun h' => h1 (.inl h')
        have b1 : y.1 < x.1 := List.not_le.1 (fun hle => e1 (List.le_antisymm hle (List.not_lt.1 a1)))
        exact h2 (.inl (e ▸ b1))
theorem pcmp_total (x y : PairD) (h1 : ltOf pcmp x y = false) (h2 : ltOf pcmp y x = false) : x = y := by
  unfold ltOf at *
  rw [decide_eq_false_iff_not, pcmp_lt] at *
  have e1 : x.1 = y.1 := List.le_antisymm (List.not_lt.1 fun h => h2 (.inl h)) (List.not_lt.1 fun h => h1 (.inl h))
  have e2 : x.2 = y.2 := List.le_antisymm (List.not_lt.1 fun h => h2 (.inr ⟨e1.symm, h⟩)) (List.not_lt.1 fun h => h1 (.inr ⟨e1, h⟩))
  exact Prod.ext e1 e2
def sortP (ps : List PairD) : List PairD := ps.mergeSort fun x y => !(ltOf pcmp) y x
end Go.Proofs.YtmmoenbmgcplkaaGreatDoor
/- slices.SortFunc of pairs by Canon's order. -/
set_option linter.unusedVariables false
set_option linter.unusedSimpArgs false
namespace Go.Proofs.YtmmoenbmgcplkaaGreatDoor
open Go Go.RowKit Go.Sort
theorem compare_any (a b : List UInt8) (w : World) : Calls Tryz.prog 117 #[.string ⟨a.toArray⟩, .string ⟨b.toArray⟩] w fun e w' => e = .returned (.int .i64 (Lib.compareBytes a b)) ∧ w' = w :=
  Tryz.strings_Compare ⟨a.toArray⟩ ⟨b.toArray⟩ w
set_option maxHeartbeats 1000000 in
theorem Canon1_any (x y : PairD) (w : World) : Calls Tryz.prog 116 #[.agg (pairL x).toArray, .agg (pairL y).toArray] w fun e w' =>
    e = .returned (.int .i64 (pcmp x y)) ∧ w' = (w.alloc (.cells (pairL x).toArray 37)).alloc (.cells (pairL y).toArray 37) := by
  obtain ⟨x1, x2⟩ := x
  obtain ⟨y1, y2⟩ := y
  have hp : pcmp (x1, x2) (y1, y2) = if Lib.compareBytes x1 y1 ≠ 0 then Lib.compareBytes x1 y1 else Lib.compareBytes x2 y2 := rfl
  show Calls Tryz.prog 116 #[.agg #[.string ⟨x1.toArray⟩, .string ⟨x2.toArray⟩], .agg #[.string ⟨y1.toArray⟩, .string ⟨y2.toArray⟩]] w fun e w' =>
    e = .returned (.int .i64 _) ∧ w' = (w.alloc (.cells #[.string ⟨x1.toArray⟩, .string ⟨x2.toArray⟩] 37)).alloc (.cells #[.string ⟨y1.toArray⟩, .string ⟨y2.toArray⟩] 37)
  by_cases hz : Lib.compareBytes x1 y1 = 0
  · rw [if_neg (by simpa using hz)] at hp
    rw [hp]
    go_enter Tryz.func116, Tryz.ntmps116
    go_wp2_with fail
    refine (compare_any _ _ _).mono ?_
    rintro e w1 ⟨rfl, rfl⟩
    rw [hz]
    go_wp2_with fail
    refine (compare_any _ _ _).mono ?_
    rintro e w1 ⟨rfl, rfl⟩
    go_wp2_with fail
    go_ret
    exact ⟨rfl, rfl⟩
  · rw [if_pos hz] at hp
    rw [hp]
    go_enter Tryz.func116, Tryz.ntmps116
    go_wp2_with fail
    refine (compare_any _ _ _).mono ?_
    rintro e w1 ⟨rfl, rfl⟩
    go_wp2_with fail
    go_ret
    exact ⟨rfl, rfl⟩
theorem enters_canon : ∀ args w, (callFunc 116 args).run Tryz.prog w = .ok (.enter 116 args) w := enters_of Tryz.func116 (by kernel_rfl) rfl
theorem grow_two (w : World) (a b : Obj) : (w.alloc a).alloc b = Sort.grow (w.drewN 0) #[a, b] := by
  rw [Sort.alloc_eq_grow, Sort.alloc_eq_grow, Sort.grow_grow]; rfl
theorem pair_cmp (blk off size : Nat) (w : World) : CmpLays Tryz.prog 116 #[] pairL 2 pcmp blk off size w := by
  intro m os dk _ x y
  refine (Canon1_any x y _).mono ?_
  rintro e w' ⟨rfl, rfl⟩
  exact ⟨rfl, 0, _, grow_two _ _ _⟩
theorem isAgg_pair : ∀ w, (isAgg 37).run Tryz.prog w = .ok true w := Tryz.isAgg37
theorem size_pair : ∀ w, (Go.sizeOf 37).run Tryz.prog w = .ok 2 w := Tryz.sizeOf37
theorem flatU (ps : List PairD) : flatK pairL 2 ps.toArray = (cellsU ps).toArray := by
  apply Array.ext
  · simp [cellsU_len]
  · intro t h1 h2
    have ht : t < ps.length * 2 := by simpa using h1
    have hd : t / 2 < ps.length := by omega
    have hm : t % 2 < 2 := Nat.mod_lt _ (by omega)
    have e1 := get_flatK pairL 2 ps.toArray t (by simpa using ht)
    have e2 := cellsU_at ps (t / 2) hd (t % 2) hm
    rw [show t / 2 * 2 + t % 2 = t by omega] at e2
    rw [getElem!_pos _ t h1] at e1
    rw [e1]
    have e3 : (pairL ps[t / 2])[t % 2]? = some ((pairL ps[t / 2])[t % 2]'(by rw [pairL_len]; exact hm)) := List.getElem?_eq_getElem _
    rw [e3] at e2
    have e4 : ps.toArray[t / 2]! = ps[t / 2] := by rw [getElem!_pos _ _ (by simpa using hd)]; simp
    rw [e4, getElem!_pos _ _ (by rw [pairL_len]; exact hm)]
    have := (List.getElem?_eq_some_iff.1 e2).2
    simpa using this.symm
theorem one_cells (x : PairD) : ∀ v ∈ pairL x, v.oneCell' = true := by
  intro u hu
  simp only [pairL, List.mem_cons, List.not_mem_nil, or_false] at hu
  rcases hu with rfl | rfl <;> rfl
theorem sortP_len (ps : List PairD) : (sortP ps).length = ps.length := by unfold sortP; simp
theorem sort_any (w0 w : World) (v : Value) (ps : List PairD) (h : OwnU w0 w v ps) (hlen : ps.length ≤ 100000000) :
    Calls Tryz.prog 115 #[v, .func (.func 116) #[] #[]] w fun e w' => e = .returned (.tuple #[]) ∧ OwnU w0 w' v (sortP ps) ∧ w.grownBy w' v.ownBlock := by
  rcases h.2 with ⟨rfl, h0⟩ | ⟨g, cap, cur, rfl, hb, hh, hn, hm, hcs, ht⟩
  · have : ps = [] := List.eq_nil_of_length_eq_zero h0
    subst this
    refine (AnyF.slices_SortFunc_none lUr6 none 0 (.func (.func 116) #[] #[]) w).mono ?_
    rintro e w' ⟨rfl, rfl⟩
    exact ⟨rfl, by simpa [sortP] using h, ⟨rfl, rfl, rfl, Nat.le_refl _, fun _ _ _ => rfl⟩⟩
  · have hg := lt_of_heap hh
    have hmx : cap ≤ maxLen := hm
    have hold : HoldsK pairL 2 w g 0 ps.toArray := by
      unfold HoldsK
      rw [flatU]
      intro j hj
      have hj' : j < ps.length * 2 := by simpa [cellsU_len] using hj
      refine ⟨?_, frozen_of_row w g _ _ _ hh⟩
      rw [Nat.zero_add, cell_of_row _ _ _ _ _ _ hh]
      have e : (cur.toList.take (ps.length * 2))[j]? = (cellsU ps)[j]? := by rw [ht]
      rw [List.getElem?_take, if_pos hj', Array.getElem?_toList] at e
      rw [e, getElem!_pos _ j hj, List.getElem?_eq_getElem (by simpa using hj)]
      simp
    have hsz : ps.toArray.size = ps.length := by simp
    have := AnyQ.slices_SortFunc_total lUr6 2 isAgg_pair size_pair pairL (fun x => rfl) one_cells pcmp swo_pair 116 #[] g 0 cap ps.toArray w enters_canon (pair_cmp g 0 _ w) hold hg (by rw [hsz]; omega) pcmp_total
    rw [hsz] at this
    refine this.mono ?_
    rintro e w' ⟨rfl, n, os, rfl⟩
    have hs : (ps.toArray.toList.mergeSort fun x y => !(ltOf pcmp) y x) = sortP ps := rfl
    rw [hs]
    have hl := sortP_len ps
    obtain ⟨qs, hqs⟩ : ∃ qs, sortP ps = qs := ⟨_, rfl⟩
    rw [hqs] at hl ⊢
    have hheap : ∀ k, k < w.heap.size → (sortWorldK pairL 2 w g 0 n qs.toArray os).heap[k]? = if k = g then some (.cells (Sort.putCells id 0 (cellsU qs).toArray cur) 37 (0, 0)) else w.heap[k]? := by
      intro k hk
      unfold sortWorldK putRowK Sort.putRow Sort.mapBlock
      rw [Sort.heap_grow_old _ _ (by simpa [Sort.ahead] using hk)]
      rw [flatU]
      simp only [Sort.ahead, Array.getElem?_modify]
      by_cases e : k = g
      · subst e; rw [if_pos rfl, if_pos rfl, hh]; rfl
      · rw [if_neg (fun h => e h.symm), if_neg e]
    refine ⟨rfl, ⟨by rw [cellsU_len], .inr ⟨g, cap, Sort.putCells id 0 (cellsU qs).toArray cur, by rw [hl], hb, by rw [hheap g hg, if_pos rfl], by omega, hm, by simpa [Sort.putCells] using hcs, ?_⟩⟩, ⟨rfl, rfl, rfl, ?_, fun k hk hkb => ?_⟩⟩
    · apply List.ext_getElem?
      intro j
      rw [List.getElem?_take, Array.getElem?_toList]
      by_cases hj : j < qs.length * 2
      · have hjc : j < cur.size := by omega
        simp only [if_pos hj, Sort.putCells, Array.getElem?_mapIdx, Array.getElem?_eq_getElem hjc, Option.map_some]
        rw [if_pos (by simp [cellsU_len]; omega), List.getElem?_eq_getElem (by rw [cellsU_len]; omega)]
        rw [Nat.sub_zero, getElem!_pos _ j (by simp [cellsU_len]; omega)]
        simp
      · rw [if_neg hj, List.getElem?_eq_none (by rw [cellsU_len]; omega)]
    · unfold sortWorldK putRowK Sort.putRow Sort.mapBlock Sort.ahead Sort.grow; simp
    · rw [hheap k hk, if_neg (fun e => hkb (by rw [e]; rfl))]
end Go.Proofs.YtmmoenbmgcplkaaGreatDoor
