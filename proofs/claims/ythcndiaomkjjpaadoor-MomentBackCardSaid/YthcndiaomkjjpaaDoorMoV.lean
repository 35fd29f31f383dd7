/- The reference's ReadStamp, ReadLong, ReadWeb. -/
import Derived.Test.YthcndiaomkjjpaaDoorMoU
import Derived.Test.YthcndiaomkjjpaaDoorMoS
set_option linter.unusedVariables false
namespace Go.Proofs.YthcndiaomkjjpaaDoor
open Go Go.RowKit
theorem numR_nr (l : List UInt8) (a k : Int) (w : World) (ha0 : 0 ≤ a) (ha : a ≤ 1000) (hk0 : 0 ≤ k) (hk : k ≤ 4) (hl : l.length ≤ 140737488355328) : Calls Tryd.prog 35 #[.string ⟨l.toArray⟩, .int .i64 a, .int .i64 k] w fun e w' => e = .returned (.int .i64 (nr l a k)) ∧ w = w' := numR_any l a k w ha0 ha hk0 hk hl
def ReadRPost (l : List UInt8) (TL : Int → List UInt8) (w : World) (e : Ending) (w' : World) : Prop := ∃ r, e = .returned (.int .i64 r) ∧ RrSays l TL r ∧ Q w w'
theorem joinedStamp (l : List UInt8) (t : Int) (h0 : 0 ≤ t) (h1 : t ≤ 253402300799) (ht : stampL t = l) : joinI (nr l 0 4) (nr l 4 2) (nr l 6 2) (nr l 9 2) (nr l 11 2) (nr l 13 2) = t := by
  obtain ⟨hs, e0, e1, e2, e3, e4, e5⟩ := parseStamp t h0 h1
  rw [ht] at hs e0 e1 e2 e3 e4 e5
  rw [nr_nv l 0 4 (hs 0 4 (by decide)), nr_nv l 4 2 (hs 4 2 (by decide)), nr_nv l 6 2 (hs 6 2 (by decide)), nr_nv l 9 2 (hs 9 2 (by decide)), nr_nv l 11 2 (hs 11 2 (by decide)), nr_nv l 13 2 (hs 13 2 (by decide)), e0, e1, e2, e3, e4, e5]
  exact join_civ t h0 h1
set_option maxRecDepth 100000 in
set_option maxHeartbeats 4000000 in
theorem ReadStampR (l : List UInt8) (w : World) (hl : l.length ≤ 140737488355328) : Calls Tryd.prog 23 #[.string ⟨l.toArray⟩] w (ReadRPost l stampL w) := by
  have hb := joinI_bd (nr l 0 4) (nr l 4 2) (nr l 6 2) (nr l 9 2) (nr l 11 2) (nr l 13 2)
  have hj := fun t h0 h1 ht => joinedStamp l t h0 h1 ht
  have HJ := Lib.hid hj
  clear hj
  go_enter Tryd.func23, Tryd.ntmps23
  go_wp2_with fail
  with_reducible refine (numR_nr l 0 4 _ (by decide) (by decide) (by decide) (by decide) hl).mono ?_
  rintro e w' ⟨rfl, rfl⟩
  go_wp2_with fail
  with_reducible refine (numR_nr l 4 2 _ (by decide) (by decide) (by decide) (by decide) hl).mono ?_
  rintro e w' ⟨rfl, rfl⟩
  go_wp2_with fail
  with_reducible refine (numR_nr l 6 2 _ (by decide) (by decide) (by decide) (by decide) hl).mono ?_
  rintro e w' ⟨rfl, rfl⟩
  go_wp2_with fail
  with_reducible refine (numR_nr l 9 2 _ (by decide) (by decide) (by decide) (by decide) hl).mono ?_
  rintro e w' ⟨rfl, rfl⟩
  go_wp2_with fail
  with_reducible refine (numR_nr l 11 2 _ (by decide) (by decide) (by decide) (by decide) hl).mono ?_
  rintro e w' ⟨rfl, rfl⟩
  go_wp2_with fail
  with_reducible refine (numR_nr l 13 2 _ (by decide) (by decide) (by decide) (by decide) hl).mono ?_
  rintro e w' ⟨rfl, rfl⟩
  go_wp2_with fail
  with_reducible refine (join_any _ _ _ _ _ _ _).mono ?_
  rintro e w' ⟨rfl, rfl⟩
  generalize joinI (nr l 0 4) (nr l 4 2) (nr l 6 2) (nr l 9 2) (nr l 11 2) (nr l 13 2) = T at *
  rcases hb with rfl | ⟨hT0, hT1⟩
  · go_wp2_with fail
    go_ret
    exact ⟨-1, rfl, .inr ⟨rfl, fun t h0 h1 ht => by have := HJ.out t h0 h1 ht; omega⟩, Q.refl _⟩
  · have t0 : decide (T < 0) = false := by simp; omega
    by_cases hS : stampL T = l
    · go_wp2_with fail
      with_reducible refine (StampR T _ hT0 hT1).mono ?_
      rintro e w1 ⟨rfl, hq1⟩
      rw [hS]
      have HS := Lib.hid hS
      clear hS
      go_wp2_with fail
      go_ret
      exact ⟨T, rfl, .inl ⟨⟨hT0, hT1⟩, HS.out⟩, hq1⟩
    · have hno : RrSays l stampL (-1) := .inr ⟨rfl, fun t h0 h1 ht => hS (by rw [HJ.out t h0 h1 ht]; exact ht)⟩
      have HNO := Lib.hid hno
      clear hno
      go_wp2_with fail
      with_reducible refine (StampR T _ hT0 hT1).mono ?_
      rintro e w1 ⟨rfl, hq1⟩
      generalize stampL T = S at *
      have tne : (S == l) = false := by simpa using hS
      clear hS
      go_wp2_with fail
      go_ret
      exact ⟨-1, rfl, HNO.out, hq1⟩
theorem joinedLong (l : List UInt8) (t : Int) (h0 : 0 ≤ t) (h1 : t ≤ 253402300799) (ht : longL t = l) : joinI (nr l 0 4) (nr l 5 2) (nr l 8 2) (nr l 11 2) (nr l 14 2) (nr l 17 2) = t := by
  obtain ⟨hs, e0, e1, e2, e3, e4, e5⟩ := parseLong t h0 h1
  rw [ht] at hs e0 e1 e2 e3 e4 e5
  rw [nr_nv l 0 4 (hs 0 4 (by decide)), nr_nv l 5 2 (hs 5 2 (by decide)), nr_nv l 8 2 (hs 8 2 (by decide)), nr_nv l 11 2 (hs 11 2 (by decide)), nr_nv l 14 2 (hs 14 2 (by decide)), nr_nv l 17 2 (hs 17 2 (by decide)), e0, e1, e2, e3, e4, e5]
  exact join_civ t h0 h1
set_option maxRecDepth 100000 in
set_option maxHeartbeats 4000000 in
theorem ReadLongR (l : List UInt8) (w : World) (hl : l.length ≤ 140737488355328) : Calls Tryd.prog 24 #[.string ⟨l.toArray⟩] w (ReadRPost l longL w) := by
  have hb := joinI_bd (nr l 0 4) (nr l 5 2) (nr l 8 2) (nr l 11 2) (nr l 14 2) (nr l 17 2)
  have hj := fun t h0 h1 ht => joinedLong l t h0 h1 ht
  have HJ := Lib.hid hj
  clear hj
  go_enter Tryd.func24, Tryd.ntmps24
  go_wp2_with fail
  with_reducible refine (numR_nr l 0 4 _ (by decide) (by decide) (by decide) (by decide) hl).mono ?_
  rintro e w' ⟨rfl, rfl⟩
  go_wp2_with fail
  with_reducible refine (numR_nr l 5 2 _ (by decide) (by decide) (by decide) (by decide) hl).mono ?_
  rintro e w' ⟨rfl, rfl⟩
  go_wp2_with fail
  with_reducible refine (numR_nr l 8 2 _ (by decide) (by decide) (by decide) (by decide) hl).mono ?_
  rintro e w' ⟨rfl, rfl⟩
  go_wp2_with fail
  with_reducible refine (numR_nr l 11 2 _ (by decide) (by decide) (by decide) (by decide) hl).mono ?_
  rintro e w' ⟨rfl, rfl⟩
  go_wp2_with fail
  with_reducible refine (numR_nr l 14 2 _ (by decide) (by decide) (by decide) (by decide) hl).mono ?_
  rintro e w' ⟨rfl, rfl⟩
  go_wp2_with fail
  with_reducible refine (numR_nr l 17 2 _ (by decide) (by decide) (by decide) (by decide) hl).mono ?_
  rintro e w' ⟨rfl, rfl⟩
  go_wp2_with fail
  with_reducible refine (join_any _ _ _ _ _ _ _).mono ?_
  rintro e w' ⟨rfl, rfl⟩
  generalize joinI (nr l 0 4) (nr l 5 2) (nr l 8 2) (nr l 11 2) (nr l 14 2) (nr l 17 2) = T at *
  rcases hb with rfl | ⟨hT0, hT1⟩
  · go_wp2_with fail
    go_ret
    exact ⟨-1, rfl, .inr ⟨rfl, fun t h0 h1 ht => by have := HJ.out t h0 h1 ht; omega⟩, Q.refl _⟩
  · have t0 : decide (T < 0) = false := by simp; omega
    by_cases hS : longL T = l
    · go_wp2_with fail
      with_reducible refine (LongR T _ hT0 hT1).mono ?_
      rintro e w1 ⟨rfl, hq1⟩
      rw [hS]
      have HS := Lib.hid hS
      clear hS
      go_wp2_with fail
      go_ret
      exact ⟨T, rfl, .inl ⟨⟨hT0, hT1⟩, HS.out⟩, hq1⟩
    · have hno : RrSays l longL (-1) := .inr ⟨rfl, fun t h0 h1 ht => hS (by rw [HJ.out t h0 h1 ht]; exact ht)⟩
      have HNO := Lib.hid hno
      clear hno
      go_wp2_with fail
      with_reducible refine (LongR T _ hT0 hT1).mono ?_
      rintro e w1 ⟨rfl, hq1⟩
      generalize longL T = S at *
      have tne : (S == l) = false := by simpa using hS
      clear hS
      go_wp2_with fail
      go_ret
      exact ⟨-1, rfl, HNO.out, hq1⟩
theorem joinedWeb (l : List UInt8) (t : Int) (h0 : 0 ≤ t) (h1 : t ≤ 253402300799) (ht : webL t = l) : joinI (nr l 12 4) (civM (zI t)) (nr l 5 2) (nr l 17 2) (nr l 20 2) (nr l 23 2) = t := by
  obtain ⟨_, _, hs, e0, e2, e3, e4, e5⟩ := parseWeb t h0 h1
  rw [ht] at hs e0 e2 e3 e4 e5
  rw [nr_nv l 12 4 (hs 12 4 (by decide)), nr_nv l 5 2 (hs 5 2 (by decide)), nr_nv l 17 2 (hs 17 2 (by decide)), nr_nv l 20 2 (hs 20 2 (by decide)), nr_nv l 23 2 (hs 23 2 (by decide)), e0, e2, e3, e4, e5]
  exact join_civ t h0 h1
set_option maxRecDepth 100000 in
set_option maxHeartbeats 4000000 in
theorem ReadWebR (l : List UInt8) (w : World) (hl : l.length ≤ 140737488355328) : Calls Tryd.prog 25 #[.string ⟨l.toArray⟩] w (ReadRPost l webL w) := by
  go_enter Tryd.func25, Tryd.ntmps25
  go_wp2_with fail
  go_loopw [3] (fun mv wr => ∃ m : Int, 1 ≤ m ∧ m ≤ 13 ∧ mv = .int .i64 m ∧ Hid (∀ x, 1 ≤ x → x < m → ¬ (0 ≤ joinI (nr l 12 4) x (nr l 5 2) (nr l 17 2) (nr l 20 2) (nr l 23 2) ∧ webL (joinI (nr l 12 4) x (nr l 5 2) (nr l 17 2) (nr l 20 2) (nr l 23 2)) = l)) ∧ Q w wr) (fun mv _ => (13 - intOf mv).toNat)
  case atStart => exact ⟨1, by omega, by omega, rfl, Lib.hid (fun x h1 h2 => by omega), Q.refl _⟩
  case round =>
    obtain ⟨m, hm1, hm2, rfl, hall, hq⟩ := hrel
    have HQ := Lib.hid hq
    clear hq
    by_cases hm : m ≤ 12
    · have hd : decide (m ≤ 12) = true := by simpa using hm
      have hb := joinI_bd (nr l 12 4) m (nr l 5 2) (nr l 17 2) (nr l 20 2) (nr l 23 2)
      have hnext : ¬ (0 ≤ joinI (nr l 12 4) m (nr l 5 2) (nr l 17 2) (nr l 20 2) (nr l 23 2) ∧ webL (joinI (nr l 12 4) m (nr l 5 2) (nr l 17 2) (nr l 20 2) (nr l 23 2)) = l) → Hid (∀ x, 1 ≤ x → x < m + 1 → ¬ (0 ≤ joinI (nr l 12 4) x (nr l 5 2) (nr l 17 2) (nr l 20 2) (nr l 23 2) ∧ webL (joinI (nr l 12 4) x (nr l 5 2) (nr l 17 2) (nr l 20 2) (nr l 23 2)) = l)) := fun h => Lib.hid fun x h1 h2 => by
        by_cases e : x = m
        · rw [e]; exact h
        · exact hall.out x h1 (by omega)
      have HN := Lib.hid hnext
      clear hnext
      obtain ⟨T, hT⟩ : ∃ T, joinI (nr l 12 4) m (nr l 5 2) (nr l 17 2) (nr l 20 2) (nr l 23 2) = T := ⟨_, rfl⟩
      rw [hT] at HN hb
      have HT := Lib.hid hT
      clear hT
      rcases hb with hneg | ⟨hT0, hT1⟩
      · subst hneg
        go_wp2_with fail
        with_reducible refine (numR_nr l 12 4 _ (by decide) (by decide) (by decide) (by decide) hl).mono ?_
        rintro e w' ⟨rfl, rfl⟩
        go_wp2_with fail
        with_reducible refine (numR_nr l 5 2 _ (by decide) (by decide) (by decide) (by decide) hl).mono ?_
        rintro e w' ⟨rfl, rfl⟩
        go_wp2_with fail
        with_reducible refine (numR_nr l 17 2 _ (by decide) (by decide) (by decide) (by decide) hl).mono ?_
        rintro e w' ⟨rfl, rfl⟩
        go_wp2_with fail
        with_reducible refine (numR_nr l 20 2 _ (by decide) (by decide) (by decide) (by decide) hl).mono ?_
        rintro e w' ⟨rfl, rfl⟩
        go_wp2_with fail
        with_reducible refine (numR_nr l 23 2 _ (by decide) (by decide) (by decide) (by decide) hl).mono ?_
        rintro e w' ⟨rfl, rfl⟩
        go_wp2_with fail
        with_reducible refine (join_any _ _ _ _ _ _ _).mono ?_
        rintro e w' ⟨rfl, rfl⟩
        rw [HT.out]
        go_wp2_with fail
        go_roundw
        case rel => exact ⟨m + 1, by omega, by omega, rfl, HN.out (by omega), HQ.out⟩
        case measure => simp [intOf]; omega
      · have t0 : decide (0 ≤ T) = true := by simpa using hT0
        by_cases hS : webL T = l
        · have HS := Lib.hid hS
          clear hS
          go_wp2_with fail
          with_reducible refine (numR_nr l 12 4 _ (by decide) (by decide) (by decide) (by decide) hl).mono ?_
          rintro e w' ⟨rfl, rfl⟩
          go_wp2_with fail
          with_reducible refine (numR_nr l 5 2 _ (by decide) (by decide) (by decide) (by decide) hl).mono ?_
          rintro e w' ⟨rfl, rfl⟩
          go_wp2_with fail
          with_reducible refine (numR_nr l 17 2 _ (by decide) (by decide) (by decide) (by decide) hl).mono ?_
          rintro e w' ⟨rfl, rfl⟩
          go_wp2_with fail
          with_reducible refine (numR_nr l 20 2 _ (by decide) (by decide) (by decide) (by decide) hl).mono ?_
          rintro e w' ⟨rfl, rfl⟩
          go_wp2_with fail
          with_reducible refine (numR_nr l 23 2 _ (by decide) (by decide) (by decide) (by decide) hl).mono ?_
          rintro e w' ⟨rfl, rfl⟩
          go_wp2_with fail
          with_reducible refine (join_any _ _ _ _ _ _ _).mono ?_
          rintro e w' ⟨rfl, rfl⟩
          rw [HT.out]
          go_wp2_with fail
          with_reducible refine (WebR T _ hT0 hT1).mono ?_
          rintro e w1 ⟨rfl, hq1⟩
          rw [HS.out]
          go_wp2_with fail
          go_ret
          exact ⟨T, rfl, .inl ⟨⟨hT0, hT1⟩, HS.out⟩, HQ.out.trans hq1⟩
        · have hn := HN.out (fun h => hS h.2)
          have HS := Lib.hid hS
          clear hS
          go_wp2_with fail
          with_reducible refine (numR_nr l 12 4 _ (by decide) (by decide) (by decide) (by decide) hl).mono ?_
          rintro e w' ⟨rfl, rfl⟩
          go_wp2_with fail
          with_reducible refine (numR_nr l 5 2 _ (by decide) (by decide) (by decide) (by decide) hl).mono ?_
          rintro e w' ⟨rfl, rfl⟩
          go_wp2_with fail
          with_reducible refine (numR_nr l 17 2 _ (by decide) (by decide) (by decide) (by decide) hl).mono ?_
          rintro e w' ⟨rfl, rfl⟩
          go_wp2_with fail
          with_reducible refine (numR_nr l 20 2 _ (by decide) (by decide) (by decide) (by decide) hl).mono ?_
          rintro e w' ⟨rfl, rfl⟩
          go_wp2_with fail
          with_reducible refine (numR_nr l 23 2 _ (by decide) (by decide) (by decide) (by decide) hl).mono ?_
          rintro e w' ⟨rfl, rfl⟩
          go_wp2_with fail
          with_reducible refine (join_any _ _ _ _ _ _ _).mono ?_
          rintro e w' ⟨rfl, rfl⟩
          rw [HT.out]
          go_wp2_with fail
          with_reducible refine (WebR T _ hT0 hT1).mono ?_
          rintro e w1 ⟨rfl, hq1⟩
          generalize webL T = S at *
          have tne : (S == l) = false := by simpa using HS.out
          have HQ1 := Lib.hid (HQ.out.trans hq1)
          clear hq1
          go_wp2_with fail
          go_roundw
          case rel => exact ⟨m + 1, by omega, by omega, rfl, hn, HQ1.out⟩
          case measure => simp [intOf]; omega
    · obtain rfl : m = 13 := by omega
      have hno : RrSays l webL (-1) := .inr ⟨rfl, fun t h0 h1 ht => by
        obtain ⟨_, ⟨m0, m1⟩, _⟩ := parts_bd t h0 h1
        have hj := joinedWeb l t h0 h1 ht
        exact hall.out (civM (zI t)) m0 (by omega) (by rw [hj]; exact ⟨h0, ht⟩)⟩
      have HNO := Lib.hid hno
      clear hno hall
      go_wp2_with fail
      go_ret
      exact ⟨-1, rfl, HNO.out, HQ.out⟩
end Go.Proofs.YthcndiaomkjjpaaDoor
