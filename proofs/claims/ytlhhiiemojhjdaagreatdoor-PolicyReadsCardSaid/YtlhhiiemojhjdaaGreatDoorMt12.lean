/- Texts of this proof, laid into one: LaG, LaH. -/
import Derived.Test.YtlhhiiemojhjdaaGreatDoorMt11
set_option linter.unusedVariables false
set_option linter.unusedSimpArgs false
namespace Go.Proofs.YtlhhiiemojhjdaaGreatDoor
open Go Go.RowKit
def utL (l : Txt) (n lo : Nat) : Nat → Nat → Nat → Nat
  | 0, _, c => if c < lo ∨ 1114111 < c ∨ (55296 ≤ c ∧ c ≤ 57343) then 0 else n
  | k + 1, i, c => if (gB l i).toNat < 128 ∨ 191 < (gB l i).toNat then 0 else utL l n lo k (i + 1) (64 * c + (gB l i).toNat - 128)
theorem utf_zero {l : Txt} (h : ¬ ∃ k, UC l.length (gB l 0).toNat (gB l 1).toNat (gB l 2).toNat (gB l 3).toNat k) : utfN l = 0 := by
  by_cases h0 : utfN l = 0
  · exact h0
  · exact absurd ⟨_, utf_cases h0⟩ h
theorem utf_other {l : Txt} (h1 : 128 ≤ (gB l 0).toNat) (h2 : (gB l 0).toNat < 194 ∨ 245 ≤ (gB l 0).toNat) : utfN l = 0 := by
  apply utf_zero
  rintro ⟨k, h⟩
  unfold UC U2 U3 U4 at h
  omega
theorem utf_two {l : Txt} (h1 : 194 ≤ (gB l 0).toNat) (h2 : (gB l 0).toNat < 224) : utfN l = if l.length < 2 then 0 else utL l 2 128 1 1 ((gB l 0).toNat - 192) := by
  have e0 := (gB l 1).toNat_lt
  have e1 := (gB l 2).toNat_lt
  have e2 := (gB l 3).toNat_lt
  rw [utL, utL]
  try simp only [Nat.reduceAdd]
  by_cases c : UC l.length (gB l 0).toNat (gB l 1).toNat (gB l 2).toNat (gB l 3).toNat 2
  · rw [utf_of c]
    unfold UC U2 U3 U4 at c
    rw [if_neg (by omega), if_neg (by omega), if_neg (by omega)]
  · rw [utf_zero (by
      rintro ⟨k, h⟩
      have hk : k = 2 := by
        clear c
        unfold UC U2 U3 U4 at h
        omega
      exact c (hk ▸ h))]
    unfold UC U2 U3 U4 at c
    by_cases c0 : l.length < 2
    · rw [if_pos c0]
    by_cases c1 : (gB l 1).toNat < 128 ∨ 191 < (gB l 1).toNat
    · rw [if_neg c0, if_pos c1]
    rw [if_neg c0, if_neg c1, if_pos (by omega)]
theorem utf_three {l : Txt} (h1 : 224 ≤ (gB l 0).toNat) (h2 : (gB l 0).toNat < 240) : utfN l = if l.length < 3 then 0 else utL l 3 2048 2 1 ((gB l 0).toNat - 224) := by
  have e0 := (gB l 1).toNat_lt
  have e1 := (gB l 2).toNat_lt
  have e2 := (gB l 3).toNat_lt
  rw [utL, utL, utL]
  try simp only [Nat.reduceAdd]
  by_cases c : UC l.length (gB l 0).toNat (gB l 1).toNat (gB l 2).toNat (gB l 3).toNat 3
  · rw [utf_of c]
    unfold UC U2 U3 U4 at c
    rw [if_neg (by omega), if_neg (by omega), if_neg (by omega), if_neg (by omega)]
  · rw [utf_zero (by
      rintro ⟨k, h⟩
      have hk : k = 3 := by
        clear c
        unfold UC U2 U3 U4 at h
        omega
      exact c (hk ▸ h))]
    unfold UC U2 U3 U4 at c
    by_cases c0 : l.length < 3
    · rw [if_pos c0]
    by_cases c1 : (gB l 1).toNat < 128 ∨ 191 < (gB l 1).toNat
    · rw [if_neg c0, if_pos c1]
    by_cases c2 : (gB l 2).toNat < 128 ∨ 191 < (gB l 2).toNat
    · rw [if_neg c0, if_neg c1, if_pos c2]
    rw [if_neg c0, if_neg c1, if_neg c2, if_pos (by omega)]
theorem utf_four {l : Txt} (h1 : 240 ≤ (gB l 0).toNat) (h2 : (gB l 0).toNat < 245) : utfN l = if l.length < 4 then 0 else utL l 4 65536 3 1 ((gB l 0).toNat - 240) := by
  have e0 := (gB l 1).toNat_lt
  have e1 := (gB l 2).toNat_lt
  have e2 := (gB l 3).toNat_lt
  rw [utL, utL, utL, utL]
  try simp only [Nat.reduceAdd]
  by_cases c : UC l.length (gB l 0).toNat (gB l 1).toNat (gB l 2).toNat (gB l 3).toNat 4
  · rw [utf_of c]
    unfold UC U2 U3 U4 at c
    rw [if_neg (by omega), if_neg (by omega), if_neg (by omega), if_neg (by omega), if_neg (by omega)]
  · rw [utf_zero (by
      rintro ⟨k, h⟩
      have hk : k = 4 := by
        clear c
        unfold UC U2 U3 U4 at h
        omega
      exact c (hk ▸ h))]
    unfold UC U2 U3 U4 at c
    by_cases c0 : l.length < 4
    · rw [if_pos c0]
    by_cases c1 : (gB l 1).toNat < 128 ∨ 191 < (gB l 1).toNat
    · rw [if_neg c0, if_pos c1]
    by_cases c2 : (gB l 2).toNat < 128 ∨ 191 < (gB l 2).toNat
    · rw [if_neg c0, if_neg c1, if_pos c2]
    by_cases c3 : (gB l 3).toNat < 128 ∨ 191 < (gB l 3).toNat
    · rw [if_neg c0, if_neg c1, if_neg c2, if_pos c3]
    rw [if_neg c0, if_neg c1, if_neg c2, if_neg c3, if_pos (by omega)]
theorem gB_drop' (s : Txt) (p i : Nat) : gB (s.drop p) i = gB s (p + i) := by unfold gB; simp [List.getD]
theorem utf_one {l : Txt} (h : l ≠ []) (h1 : (gB l 0).toNat < 128) : utfN l = 1 := by
  cases l with
  | nil => exact absurd rfl h
  | cons b t => exact utf_ascii b t h1
def pwU : Nat → Nat
  | 3 => 64
  | 2 => 4096
  | 1 => 262144
  | _ => 16777216
theorem pwU_step {k C B : Nat} (hk : k + 1 ≤ 3) (hC : C < pwU (k + 1)) (hB : B ≤ 191) : 64 * C + B - 128 < pwU k := by
  rcases k with _ | _ | _ | k
  · have e1 : pwU 0 = 16777216 := rfl
    have e2 : pwU 1 = 262144 := rfl
    rw [e1]; rw [e2] at hC; omega
  · have e1 : pwU 1 = 262144 := rfl
    have e2 : pwU 2 = 4096 := rfl
    rw [e1]; rw [e2] at hC; omega
  · have e1 : pwU 2 = 4096 := rfl
    have e2 : pwU 3 = 64 := rfl
    rw [e1]; rw [e2] at hC; omega
  · omega
theorem pwU_le {k : Nat} : pwU k ≤ 16777216 := by
  unfold pwU; split <;> decide
theorem pwU_ge {k C : Nat} (h : C < 64) : C < pwU k := by
  have : 64 ≤ pwU k := by unfold pwU; split <;> decide
  omega
set_option maxRecDepth 100000 in
set_option maxHeartbeats 4000000 in
theorem rutf_any (s : Txt) (p : Nat) (w : World) (hl : s.length ≤ 9223372036854775807) (hp0 : p ≤ 9223372036854775807) :
    Calls Tryz.prog 54 #[.string ⟨s.toArray⟩, .int .i64 (p : Int)] w fun e w' => e = .returned (.int .i64 ((utfN (s.drop p) : Nat) : Int)) ∧ Q w w' := by
  obtain ⟨r, hr⟩ : ∃ r, utfN (s.drop p) = r := ⟨_, rfl⟩
  rw [hr]
  have HR := Lib.hid hr
  have HQ := Lib.hid (Q.refl w)
  clear hr
  go_enter Tryz.func54, Tryz.ntmps54
  by_cases hp : s.length ≤ p
  · have hd : decide (s.length ≤ p) = true := by simpa using hp
    have HX : Hid ((0 : Nat) = r) := Lib.hid (by rw [← HR.out, List.drop_of_length_le hp]; rfl)
    clear HR
    go_wp2_with fail
    go_ret
    exact ⟨ret_int (by rw [← HX.out]; rfl), HQ.out⟩
  · have hd : decide (s.length ≤ p) = false := by simpa using hp
    have hd2 : decide (p < s.length) = true := by simp; omega
    have hne : s.drop p ≠ [] := by intro e; have := congrArg List.length e; simp at this; omega
    obtain ⟨v, hv⟩ : ∃ v, gB s p = v := ⟨_, rfl⟩
    have hv0 : gB (s.drop p) 0 = v := by rw [gB_drop', Nat.add_zero, hv]
    have hvl := v.toNat_lt
    by_cases c1 : v.toNat < 128
    · have g1 : decide ((v.toNat : Int) < 128) = true := by simp; omega
      have HX : Hid ((1 : Nat) = r) := Lib.hid (by rw [← HR.out, utf_one hne (by rw [hv0]; exact c1)])
      clear HR hne
      go_wp2_with fail
      go_ret
      exact ⟨ret_int (by rw [← HX.out]; rfl), HQ.out⟩
    · have g1 : decide ((v.toNat : Int) < 128) = false := by simp; omega
      by_cases c2 : v.toNat < 194 ∨ 245 ≤ v.toNat
      · have HX : Hid ((0 : Nat) = r) := Lib.hid (by rw [← HR.out, utf_other (by rw [hv0]; omega) (by rw [hv0]; exact c2)])
        clear HR hne
        rcases c2 with c2 | c2
        · have g2 : decide ((194 : Int) ≤ (v.toNat : Int)) = false := by simp; omega
          have g3 : decide ((224 : Int) ≤ (v.toNat : Int)) = false := by simp; omega
          have g4 : decide ((240 : Int) ≤ (v.toNat : Int)) = false := by simp; omega
          go_wp2_with fail
          go_ret
          exact ⟨ret_int (by rw [← HX.out]; rfl), HQ.out⟩
        · have g2 : decide ((194 : Int) ≤ (v.toNat : Int)) = true := by simp; omega
          have g3 : decide ((224 : Int) ≤ (v.toNat : Int)) = true := by simp; omega
          have g4 : decide ((240 : Int) ≤ (v.toNat : Int)) = true := by simp; omega
          have g5 : decide ((v.toNat : Int) < 224) = false := by simp; omega
          have g6 : decide ((v.toNat : Int) < 240) = false := by simp; omega
          have g7 : decide ((v.toNat : Int) < 245) = false := by simp; omega
          go_wp2_with fail
          go_ret
          exact ⟨ret_int (by rw [← HX.out]; rfl), HQ.out⟩
      · by_cases c3 : v.toNat < 224
        · have HE : Hid ((if s.length - p < 2 then 0 else utL (s.drop p) 2 128 1 1 (v.toNat - 192)) = r) := Lib.hid (by
            rw [← HR.out, utf_two (by rw [hv0]; omega) (by rw [hv0]; omega), hv0, List.length_drop])
          have g2 : decide ((194 : Int) ≤ (v.toNat : Int)) = true := by simp; omega
          have g5 : decide ((v.toNat : Int) < 224) = true := by simp; omega
          have hsub : ((v.toNat : Int) - 192) = ((v.toNat - 192 : Nat) : Int) := by omega
          have hc0 : v.toNat - 192 < 64 := by omega
          obtain ⟨c0, hc0e⟩ : ∃ c0, v.toNat - 192 = c0 := ⟨_, rfl⟩
          rw [hc0e] at HE hsub hc0
          by_cases hn : s.length - p < 2
          · have g9 : decide ((s.length : Int) - (p : Int) < 2) = true := by simp; omega
            have HX : Hid ((0 : Nat) = r) := Lib.hid (by rw [← HE.out, if_pos hn])
            clear HE HR hv0 hc0e hne
            go_wp2_with fail
            go_ret
            exact ⟨ret_int (by rw [← HX.out]; rfl), HQ.out⟩
          · have g9 : decide ((s.length : Int) - (p : Int) < 2) = false := by simp; omega
            have HL0 : Hid (utL (s.drop p) 2 128 1 1 c0 = r) := Lib.hid (by rw [← HE.out, if_neg hn])
            clear HE HR hv0 hc0e hne
            go_upto_region 23 with (fail)
            clear hsub
            have hnn : 2 ≤ s.length - p := by omega
            clear hn g9
            go_wp2_with fail
            go_loopg [5, 8] 2 (fun gk c i wx => ∃ (k C I : Nat), gk = k + 1 ∧ I + k = 2 ∧ 1 ≤ I ∧ C < pwU k ∧ c = .int .i64 (C : Int) ∧ i = .int .i64 (I : Int) ∧ Hid (utL (s.drop p) 2 128 k I C = r ∧ Q w wx))
            case atStart => exact ⟨1, c0, 1, rfl, rfl, by omega, pwU_ge hc0, rfl, by rfl, Lib.hid ⟨HL0.out, HQ.out⟩⟩
            case round =>
              obtain ⟨k, C, I, rfl, hI, hI1, hC, rfl, rfl, HI⟩ := hrel
              rename World => wa
              have hC2 : C < 16777216 := Nat.lt_of_lt_of_le hC pwU_le
              rcases k with _ | k
              · have hd3 : decide ((I : Int) < 2) = false := by simp; omega
                have HX : Hid ((if C < 128 ∨ 1114111 < C ∨ (55296 ≤ C ∧ C ≤ 57343) then 0 else 2) = r ∧ Q w wa) := Lib.hid ⟨by have := HI.out.1; rw [utL] at this; exact this, HI.out.2⟩
                clear HI hC
                by_cases d1 : C < 128
                · have y1 : decide ((C : Int) < 128) = true := by simp; omega
                  have HY : Hid ((0 : Nat) = r) := Lib.hid (by rw [← HX.out.1, if_pos (by omega)])
                  go_wp2_with fail
                  go_ret
                  exact ⟨ret_int (by rw [← HY.out]; rfl), HX.out.2⟩
                · have y1 : decide ((C : Int) < 128) = false := by simp; omega
                  by_cases d2 : 1114111 < C
                  · have y2 : decide ((1114111 : Int) < (C : Int)) = true := by simp; omega
                    have HY : Hid ((0 : Nat) = r) := Lib.hid (by rw [← HX.out.1, if_pos (by omega)])
                    go_wp2_with fail
                    go_ret
                    exact ⟨ret_int (by rw [← HY.out]; rfl), HX.out.2⟩
                  · have y2 : decide ((1114111 : Int) < (C : Int)) = false := by simp; omega
                    by_cases d3 : 55296 ≤ C
                    · have y3 : decide ((55296 : Int) ≤ (C : Int)) = true := by simp; omega
                      by_cases d4 : C ≤ 57343
                      · have y4 : decide ((C : Int) ≤ 57343) = true := by simp; omega
                        have HY : Hid ((0 : Nat) = r) := Lib.hid (by rw [← HX.out.1, if_pos (by omega)])
                        go_wp2_with fail
                        go_ret
                        exact ⟨ret_int (by rw [← HY.out]; rfl), HX.out.2⟩
                      · have y4 : decide ((C : Int) ≤ 57343) = false := by simp; omega
                        have HY : Hid ((2 : Nat) = r) := Lib.hid (by rw [← HX.out.1, if_neg (by omega)])
                        go_wp2_with fail
                        go_ret
                        exact ⟨ret_int (by rw [← HY.out]; rfl), HX.out.2⟩
                    · have y3 : decide ((55296 : Int) ≤ (C : Int)) = false := by simp; omega
                      have HY : Hid ((2 : Nat) = r) := Lib.hid (by rw [← HX.out.1, if_neg (by omega)])
                      go_wp2_with fail
                      go_ret
                      exact ⟨ret_int (by rw [← HY.out]; rfl), HX.out.2⟩
              · have hd3 : decide ((I : Int) < 2) = true := by simp; omega
                have hix : decide ((p : Int) + (I : Int) < (s.length : Int)) = true := by simp; omega
                have hiy : decide (p + I < s.length) = true := by simp; omega
                obtain ⟨u, hu⟩ : ∃ u, gB s (p + I) = u := ⟨_, rfl⟩
                have hul := u.toNat_lt
                have HE : Hid ((if u.toNat < 128 ∨ 191 < u.toNat then 0 else utL (s.drop p) 2 128 k (I + 1) (64 * C + u.toNat - 128)) = r ∧ Q w wa) := Lib.hid ⟨by have := HI.out.1; rw [utL, gB_drop', hu] at this; exact this, HI.out.2⟩
                clear HI
                by_cases d1 : u.toNat < 128
                · have y1 : decide ((u.toNat : Int) < 128) = true := by simp; omega
                  have HY : Hid ((0 : Nat) = r) := Lib.hid (by rw [← HE.out.1, if_pos (by omega)])
                  go_wp2_with fail
                  go_ret
                  exact ⟨ret_int (by rw [← HY.out]; rfl), HE.out.2⟩
                · have y1 : decide ((u.toNat : Int) < 128) = false := by simp; omega
                  by_cases d2 : 191 < u.toNat
                  · have y2 : decide ((191 : Int) < (u.toNat : Int)) = true := by simp; omega
                    have HY : Hid ((0 : Nat) = r) := Lib.hid (by rw [← HE.out.1, if_pos (by omega)])
                    go_wp2_with fail
                    go_ret
                    exact ⟨ret_int (by rw [← HY.out]; rfl), HE.out.2⟩
                  · have y2 : decide ((191 : Int) < (u.toNat : Int)) = false := by simp; omega
                    have hs := pwU_step (by omega) hC (by omega : u.toNat ≤ 191)
                    have hcc : (64 * (C : Int) + (u.toNat : Int)) - 128 = ((64 * C + u.toNat - 128 : Nat) : Int) := by omega
                    have HN : Hid (utL (s.drop p) 2 128 k (I + 1) (64 * C + u.toNat - 128) = r ∧ Q w wa) := Lib.hid ⟨by rw [← HE.out.1, if_neg (by omega)], HE.out.2⟩
                    clear HE
                    go_wp2_with fail
                    go_roundg (k + 1)
                    case measure => omega
                    case rel => exact ⟨k, 64 * C + u.toNat - 128, I + 1, rfl, by omega, by omega, hs, by first | rfl | (rw [hcc]), by simp, HN⟩
        · by_cases c4 : v.toNat < 240
          · have HE : Hid ((if s.length - p < 3 then 0 else utL (s.drop p) 3 2048 2 1 (v.toNat - 224)) = r) := Lib.hid (by
              rw [← HR.out, utf_three (by rw [hv0]; omega) (by rw [hv0]; omega), hv0, List.length_drop])
            have g2 : decide ((194 : Int) ≤ (v.toNat : Int)) = true := by simp; omega
            have g5 : decide ((v.toNat : Int) < 224) = false := by simp; omega
            have g3 : decide ((224 : Int) ≤ (v.toNat : Int)) = true := by simp; omega
            have g6 : decide ((v.toNat : Int) < 240) = true := by simp; omega
            have hsub : ((v.toNat : Int) - 224) = ((v.toNat - 224 : Nat) : Int) := by omega
            have hc0 : v.toNat - 224 < 64 := by omega
            obtain ⟨c0, hc0e⟩ : ∃ c0, v.toNat - 224 = c0 := ⟨_, rfl⟩
            rw [hc0e] at HE hsub hc0
            by_cases hn : s.length - p < 3
            · have g9 : decide ((s.length : Int) - (p : Int) < 3) = true := by simp; omega
              have HX : Hid ((0 : Nat) = r) := Lib.hid (by rw [← HE.out, if_pos hn])
              clear HE HR hv0 hc0e hne
              go_wp2_with fail
              go_ret
              exact ⟨ret_int (by rw [← HX.out]; rfl), HQ.out⟩
            · have g9 : decide ((s.length : Int) - (p : Int) < 3) = false := by simp; omega
              have HL0 : Hid (utL (s.drop p) 3 2048 2 1 c0 = r) := Lib.hid (by rw [← HE.out, if_neg hn])
              clear HE HR hv0 hc0e hne
              go_upto_region 23 with (fail)
              clear hsub
              have hnn : 3 ≤ s.length - p := by omega
              clear hn g9
              go_wp2_with fail
              go_loopg [5, 8] 3 (fun gk c i wx => ∃ (k C I : Nat), gk = k + 1 ∧ I + k = 3 ∧ 1 ≤ I ∧ C < pwU k ∧ c = .int .i64 (C : Int) ∧ i = .int .i64 (I : Int) ∧ Hid (utL (s.drop p) 3 2048 k I C = r ∧ Q w wx))
              case atStart => exact ⟨2, c0, 1, rfl, rfl, by omega, pwU_ge hc0, rfl, by rfl, Lib.hid ⟨HL0.out, HQ.out⟩⟩
              case round =>
                obtain ⟨k, C, I, rfl, hI, hI1, hC, rfl, rfl, HI⟩ := hrel
                rename World => wa
                have hC2 : C < 16777216 := Nat.lt_of_lt_of_le hC pwU_le
                rcases k with _ | k
                · have hd3 : decide ((I : Int) < 3) = false := by simp; omega
                  have HX : Hid ((if C < 2048 ∨ 1114111 < C ∨ (55296 ≤ C ∧ C ≤ 57343) then 0 else 3) = r ∧ Q w wa) := Lib.hid ⟨by have := HI.out.1; rw [utL] at this; exact this, HI.out.2⟩
                  clear HI hC
                  by_cases d1 : C < 2048
                  · have y1 : decide ((C : Int) < 2048) = true := by simp; omega
                    have HY : Hid ((0 : Nat) = r) := Lib.hid (by rw [← HX.out.1, if_pos (by omega)])
                    go_wp2_with fail
                    go_ret
                    exact ⟨ret_int (by rw [← HY.out]; rfl), HX.out.2⟩
                  · have y1 : decide ((C : Int) < 2048) = false := by simp; omega
                    by_cases d2 : 1114111 < C
                    · have y2 : decide ((1114111 : Int) < (C : Int)) = true := by simp; omega
                      have HY : Hid ((0 : Nat) = r) := Lib.hid (by rw [← HX.out.1, if_pos (by omega)])
                      go_wp2_with fail
                      go_ret
                      exact ⟨ret_int (by rw [← HY.out]; rfl), HX.out.2⟩
                    · have y2 : decide ((1114111 : Int) < (C : Int)) = false := by simp; omega
                      by_cases d3 : 55296 ≤ C
                      · have y3 : decide ((55296 : Int) ≤ (C : Int)) = true := by simp; omega
                        by_cases d4 : C ≤ 57343
                        · have y4 : decide ((C : Int) ≤ 57343) = true := by simp; omega
                          have HY : Hid ((0 : Nat) = r) := Lib.hid (by rw [← HX.out.1, if_pos (by omega)])
                          go_wp2_with fail
                          go_ret
                          exact ⟨ret_int (by rw [← HY.out]; rfl), HX.out.2⟩
                        · have y4 : decide ((C : Int) ≤ 57343) = false := by simp; omega
                          have HY : Hid ((3 : Nat) = r) := Lib.hid (by rw [← HX.out.1, if_neg (by omega)])
                          go_wp2_with fail
                          go_ret
                          exact ⟨ret_int (by rw [← HY.out]; rfl), HX.out.2⟩
                      · have y3 : decide ((55296 : Int) ≤ (C : Int)) = false := by simp; omega
                        have HY : Hid ((3 : Nat) = r) := Lib.hid (by rw [← HX.out.1, if_neg (by omega)])
                        go_wp2_with fail
                        go_ret
                        exact ⟨ret_int (by rw [← HY.out]; rfl), HX.out.2⟩
                · have hd3 : decide ((I : Int) < 3) = true := by simp; omega
                  have hix : decide ((p : Int) + (I : Int) < (s.length : Int)) = true := by simp; omega
                  have hiy : decide (p + I < s.length) = true := by simp; omega
                  obtain ⟨u, hu⟩ : ∃ u, gB s (p + I) = u := ⟨_, rfl⟩
                  have hul := u.toNat_lt
                  have HE : Hid ((if u.toNat < 128 ∨ 191 < u.toNat then 0 else utL (s.drop p) 3 2048 k (I + 1) (64 * C + u.toNat - 128)) = r ∧ Q w wa) := Lib.hid ⟨by have := HI.out.1; rw [utL, gB_drop', hu] at this; exact this, HI.out.2⟩
                  clear HI
                  by_cases d1 : u.toNat < 128
                  · have y1 : decide ((u.toNat : Int) < 128) = true := by simp; omega
                    have HY : Hid ((0 : Nat) = r) := Lib.hid (by rw [← HE.out.1, if_pos (by omega)])
                    go_wp2_with fail
                    go_ret
                    exact ⟨ret_int (by rw [← HY.out]; rfl), HE.out.2⟩
                  · have y1 : decide ((u.toNat : Int) < 128) = false := by simp; omega
                    by_cases d2 : 191 < u.toNat
                    · have y2 : decide ((191 : Int) < (u.toNat : Int)) = true := by simp; omega
                      have HY : Hid ((0 : Nat) = r) := Lib.hid (by rw [← HE.out.1, if_pos (by omega)])
                      go_wp2_with fail
                      go_ret
                      exact ⟨ret_int (by rw [← HY.out]; rfl), HE.out.2⟩
                    · have y2 : decide ((191 : Int) < (u.toNat : Int)) = false := by simp; omega
                      have hs := pwU_step (by omega) hC (by omega : u.toNat ≤ 191)
                      have hcc : (64 * (C : Int) + (u.toNat : Int)) - 128 = ((64 * C + u.toNat - 128 : Nat) : Int) := by omega
                      have HN : Hid (utL (s.drop p) 3 2048 k (I + 1) (64 * C + u.toNat - 128) = r ∧ Q w wa) := Lib.hid ⟨by rw [← HE.out.1, if_neg (by omega)], HE.out.2⟩
                      clear HE
                      go_wp2_with fail
                      go_roundg (k + 1)
                      case measure => omega
                      case rel => exact ⟨k, 64 * C + u.toNat - 128, I + 1, rfl, by omega, by omega, hs, by first | rfl | (rw [hcc]), by simp, HN⟩
          · have HE : Hid ((if s.length - p < 4 then 0 else utL (s.drop p) 4 65536 3 1 (v.toNat - 240)) = r) := Lib.hid (by
              rw [← HR.out, utf_four (by rw [hv0]; omega) (by rw [hv0]; omega), hv0, List.length_drop])
            have g2 : decide ((194 : Int) ≤ (v.toNat : Int)) = true := by simp; omega
            have g5 : decide ((v.toNat : Int) < 224) = false := by simp; omega
            have g3 : decide ((224 : Int) ≤ (v.toNat : Int)) = true := by simp; omega
            have g6 : decide ((v.toNat : Int) < 240) = false := by simp; omega
            have g4 : decide ((240 : Int) ≤ (v.toNat : Int)) = true := by simp; omega
            have g7 : decide ((v.toNat : Int) < 245) = true := by simp; omega
            have hsub : ((v.toNat : Int) - 240) = ((v.toNat - 240 : Nat) : Int) := by omega
            have hc0 : v.toNat - 240 < 64 := by omega
            obtain ⟨c0, hc0e⟩ : ∃ c0, v.toNat - 240 = c0 := ⟨_, rfl⟩
            rw [hc0e] at HE hsub hc0
            by_cases hn : s.length - p < 4
            · have g9 : decide ((s.length : Int) - (p : Int) < 4) = true := by simp; omega
              have HX : Hid ((0 : Nat) = r) := Lib.hid (by rw [← HE.out, if_pos hn])
              clear HE HR hv0 hc0e hne
              go_wp2_with fail
              go_ret
              exact ⟨ret_int (by rw [← HX.out]; rfl), HQ.out⟩
            · have g9 : decide ((s.length : Int) - (p : Int) < 4) = false := by simp; omega
              have HL0 : Hid (utL (s.drop p) 4 65536 3 1 c0 = r) := Lib.hid (by rw [← HE.out, if_neg hn])
              clear HE HR hv0 hc0e hne
              go_upto_region 23 with (fail)
              clear hsub
              have hnn : 4 ≤ s.length - p := by omega
              clear hn g9
              go_wp2_with fail
              go_loopg [5, 8] 4 (fun gk c i wx => ∃ (k C I : Nat), gk = k + 1 ∧ I + k = 4 ∧ 1 ≤ I ∧ C < pwU k ∧ c = .int .i64 (C : Int) ∧ i = .int .i64 (I : Int) ∧ Hid (utL (s.drop p) 4 65536 k I C = r ∧ Q w wx))
              case atStart => exact ⟨3, c0, 1, rfl, rfl, by omega, pwU_ge hc0, rfl, by rfl, Lib.hid ⟨HL0.out, HQ.out⟩⟩
              case round =>
                obtain ⟨k, C, I, rfl, hI, hI1, hC, rfl, rfl, HI⟩ := hrel
                rename World => wa
                have hC2 : C < 16777216 := Nat.lt_of_lt_of_le hC pwU_le
                rcases k with _ | k
                · have hd3 : decide ((I : Int) < 4) = false := by simp; omega
                  have HX : Hid ((if C < 65536 ∨ 1114111 < C ∨ (55296 ≤ C ∧ C ≤ 57343) then 0 else 4) = r ∧ Q w wa) := Lib.hid ⟨by have := HI.out.1; rw [utL] at this; exact this, HI.out.2⟩
                  clear HI hC
                  by_cases d1 : C < 65536
                  · have y1 : decide ((C : Int) < 65536) = true := by simp; omega
                    have HY : Hid ((0 : Nat) = r) := Lib.hid (by rw [← HX.out.1, if_pos (by omega)])
                    go_wp2_with fail
                    go_ret
                    exact ⟨ret_int (by rw [← HY.out]; rfl), HX.out.2⟩
                  · have y1 : decide ((C : Int) < 65536) = false := by simp; omega
                    by_cases d2 : 1114111 < C
                    · have y2 : decide ((1114111 : Int) < (C : Int)) = true := by simp; omega
                      have HY : Hid ((0 : Nat) = r) := Lib.hid (by rw [← HX.out.1, if_pos (by omega)])
                      go_wp2_with fail
                      go_ret
                      exact ⟨ret_int (by rw [← HY.out]; rfl), HX.out.2⟩
                    · have y2 : decide ((1114111 : Int) < (C : Int)) = false := by simp; omega
                      by_cases d3 : 55296 ≤ C
                      · have y3 : decide ((55296 : Int) ≤ (C : Int)) = true := by simp; omega
                        by_cases d4 : C ≤ 57343
                        · have y4 : decide ((C : Int) ≤ 57343) = true := by simp; omega
                          have HY : Hid ((0 : Nat) = r) := Lib.hid (by rw [← HX.out.1, if_pos (by omega)])
                          go_wp2_with fail
                          go_ret
                          exact ⟨ret_int (by rw [← HY.out]; rfl), HX.out.2⟩
                        · have y4 : decide ((C : Int) ≤ 57343) = false := by simp; omega
                          have HY : Hid ((4 : Nat) = r) := Lib.hid (by rw [← HX.out.1, if_neg (by omega)])
                          go_wp2_with fail
                          go_ret
                          exact ⟨ret_int (by rw [← HY.out]; rfl), HX.out.2⟩
                      · have y3 : decide ((55296 : Int) ≤ (C : Int)) = false := by simp; omega
                        have HY : Hid ((4 : Nat) = r) := Lib.hid (by rw [← HX.out.1, if_neg (by omega)])
                        go_wp2_with fail
                        go_ret
                        exact ⟨ret_int (by rw [← HY.out]; rfl), HX.out.2⟩
                · have hd3 : decide ((I : Int) < 4) = true := by simp; omega
                  have hix : decide ((p : Int) + (I : Int) < (s.length : Int)) = true := by simp; omega
                  have hiy : decide (p + I < s.length) = true := by simp; omega
                  obtain ⟨u, hu⟩ : ∃ u, gB s (p + I) = u := ⟨_, rfl⟩
                  have hul := u.toNat_lt
                  have HE : Hid ((if u.toNat < 128 ∨ 191 < u.toNat then 0 else utL (s.drop p) 4 65536 k (I + 1) (64 * C + u.toNat - 128)) = r ∧ Q w wa) := Lib.hid ⟨by have := HI.out.1; rw [utL, gB_drop', hu] at this; exact this, HI.out.2⟩
                  clear HI
                  by_cases d1 : u.toNat < 128
                  · have y1 : decide ((u.toNat : Int) < 128) = true := by simp; omega
                    have HY : Hid ((0 : Nat) = r) := Lib.hid (by rw [← HE.out.1, if_pos (by omega)])
                    go_wp2_with fail
                    go_ret
                    exact ⟨ret_int (by rw [← HY.out]; rfl), HE.out.2⟩
                  · have y1 : decide ((u.toNat : Int) < 128) = false := by simp; omega
                    by_cases d2 : 191 < u.toNat
                    · have y2 : decide ((191 : Int) < (u.toNat : Int)) = true := by simp; omega
                      have HY : Hid ((0 : Nat) = r) := Lib.hid (by rw [← HE.out.1, if_pos (by omega)])
                      go_wp2_with fail
                      go_ret
                      exact ⟨ret_int (by rw [← HY.out]; rfl), HE.out.2⟩
                    · have y2 : decide ((191 : Int) < (u.toNat : Int)) = false := by simp; omega
                      have hs := pwU_step (by omega) hC (by omega : u.toNat ≤ 191)
                      have hcc : (64 * (C : Int) + (u.toNat : Int)) - 128 = ((64 * C + u.toNat - 128 : Nat) : Int) := by omega
                      have HN : Hid (utL (s.drop p) 4 65536 k (I + 1) (64 * C + u.toNat - 128) = r ∧ Q w wa) := Lib.hid ⟨by rw [← HE.out.1, if_neg (by omega)], HE.out.2⟩
                      clear HE
                      go_wp2_with fail
                      go_roundg (k + 1)
                      case measure => omega
                      case rel => exact ⟨k, 64 * C + u.toNat - 128, I + 1, rfl, by omega, by omega, hs, by first | rfl | (rw [hcc]), by simp, HN⟩
end Go.Proofs.YtlhhiiemojhjdaaGreatDoor
set_option linter.unusedVariables false
set_option linter.unusedSimpArgs false
namespace Go.Proofs.YtlhhiiemojhjdaaGreatDoor
open Go Go.RowKit
theorem esc_at {s : Txt} {p : Nat} (hp : p < s.length) : escR (s.drop p) = if s.length ≤ p + 1 then .bad 54 0 else if gB s (p + 1) = 117 then ((fourR (s.length - p) 4 0 (s.drop (p + 2))).bind fun c u => codeR (s.length - p) c u) else match simpleE (gB s (p + 1)) with | none => .bad 54 (s.length - p) | some c => .ok [c] (s.drop (p + 2)) := by
  rw [drop_at hp]
  by_cases h1 : s.length ≤ p + 1
  · rw [if_pos h1, List.drop_of_length_le h1]; rfl
  · rw [if_neg h1, drop_at (by omega), escR]
    have e : (gB s p :: gB s (p + 1) :: s.drop (p + 1 + 1)).length = s.length - p := by simp; omega
    rw [e]; rfl
set_option maxRecDepth 100000 in
set_option maxHeartbeats 4000000 in
theorem rescape_any (b : Nat) (s : Txt) (p : Nat) (a : Int) (w : World) (h : ScB w b s p 0 a) (hp : p < s.length) (hl : s.length ≤ 100000000) :
    Calls Tryz.prog 53 #[.pointer (some ⟨b, 0, none⟩)] w (TxP b s a (escR (s.drop p)) w) := by
  obtain ⟨r, hr⟩ : ∃ r, escR (s.drop p) = r := ⟨_, rfl⟩
  rw [hr]
  rw [esc_at hp] at hr
  have HR := Lib.hid hr
  have H := Lib.hid h
  obtain ⟨x0, x1, x2, -⟩ := h.c
  have f1 := h.f 1
  clear h hr
  go_enter Tryz.func53, Tryz.ntmps53
  by_cases hend : s.length ≤ p + 1
  · have hd : decide ((s.length : Int) ≤ (p : Int) + 1) = true := by simp; omega
    have HX : Hid (r = .bad 54 0) := Lib.hid (by rw [← HR.out, if_pos hend])
    have HN1 := Lib.hid (no_any b s p 0 a 54 s.length w H.out)
    clear HR hend
    go_wp2_with fail
    refine HN1.out.mono ?_
    rintro e w2 ⟨rfl, hs2, hg2⟩
    have HP : Hid (TxP b s a r w (.returned (.string ⟨#[]⟩)) w2) := Lib.hid (by rw [HX.out]; exact txt_bad (GX.refl _ _) hg2 (by omega) (by simp) hs2)
    clear hs2 hg2
    go_wp2_with fail
    go_ret
    exact HP.out
  · have hd : decide ((s.length : Int) ≤ (p : Int) + 1) = false := by simp; omega
    have hp2 : p + 2 ≤ s.length := by omega
    have hix : decide ((p : Int) + 1 < (s.length : Int)) = true := by simp; omega
    have hiy : decide (p + 1 < s.length) = true := by simp; omega
    obtain ⟨v, hv⟩ : ∃ v, gB s (p + 1) = v := ⟨_, rfl⟩
    have HR2 : Hid ((if v = 117 then ((fourR (s.length - p) 4 0 (s.drop (p + 2))).bind fun c u => codeR (s.length - p) c u) else match simpleE v with | none => .bad 54 (s.length - p) | some c => .ok [c] (s.drop (p + 2))) = r) := Lib.hid (by rw [← HR.out, if_neg hend, hv])
    have HS2 := Lib.hid (H.out.atn (p + 2) ((p : Int) + 2) (by omega))
    have HG2 : Hid (GX [b] w (w.setCell ⟨b, 1, none⟩ (.int .i64 ((p : Int) + 2)))) := Lib.hid ((GX.refl _ _).set (by simp) _ _)
    clear HR hend
    by_cases c34 : v = 34
    · subst c34
      have HX : Hid (r = .ok [34] (s.drop (p + 2))) := Lib.hid (by rw [← HR2.out]; rfl)
      have hconv : (convert 104 9 (.slice (some ⟨w.heap.size, 0, none⟩) 1 1)).run Tryz.prog ((w.setCell ⟨b, 1, none⟩ (.int .i64 ((p : Int) + 2))).alloc (.cells #[.int .u8 34] 5)) = .ok (.string ⟨#[byteOf 34]⟩) ((w.setCell ⟨b, 1, none⟩ (.int .i64 ((p : Int) + 2))).alloc (.cells #[.int .u8 34] 5)) := by
        have h := conv_bytes (P := Tryz.prog) (w.setCell ⟨b, 1, none⟩ (.int .i64 ((p : Int) + 2))) 104 9 5 1 [(34 : Int)] Tryz.underlying104 Tryz.underlying5 Tryz.underlying9 (by simp)
        have e : (w.setCell ⟨b, 1, none⟩ (.int .i64 ((p : Int) + 2))).heap.size = w.heap.size := by simp
        rw [e] at h
        exact h
      have HQ : Hid (∀ (o : Obj), GX [b] w ((w.setCell ⟨b, 1, none⟩ (.int .i64 ((p : Int) + 2))).alloc o)) := Lib.hid (fun o => HG2.out.trans (GX.q ((Q.refl _).alloc o)))
      have HQ2 : Hid (∀ (o : Obj), ScB ((w.setCell ⟨b, 1, none⟩ (.int .i64 ((p : Int) + 2))).alloc o) b s (p + 2) 0 a) := Lib.hid (fun o => HS2.out.q ((Q.refl _).alloc o))
      clear HR2
      go_wp2_with fail
      go_ret
      rw [HX.out]
      exact ⟨HQ.out _, rfl, p + 2, hp2, rfl, HQ2.out _⟩
    have n34 : ((v.toNat : Int) == 34) = false := by
      have := u8_eq v 34
      rw [show ((v.toNat : Int) == 34) = (v == 34) from this]; simpa using c34
    by_cases c92 : v = 92
    · subst c92
      have HX : Hid (r = .ok [92] (s.drop (p + 2))) := Lib.hid (by rw [← HR2.out]; rfl)
      have hconv : (convert 104 9 (.slice (some ⟨w.heap.size, 0, none⟩) 1 1)).run Tryz.prog ((w.setCell ⟨b, 1, none⟩ (.int .i64 ((p : Int) + 2))).alloc (.cells #[.int .u8 92] 5)) = .ok (.string ⟨#[byteOf 92]⟩) ((w.setCell ⟨b, 1, none⟩ (.int .i64 ((p : Int) + 2))).alloc (.cells #[.int .u8 92] 5)) := by
        have h := conv_bytes (P := Tryz.prog) (w.setCell ⟨b, 1, none⟩ (.int .i64 ((p : Int) + 2))) 104 9 5 1 [(92 : Int)] Tryz.underlying104 Tryz.underlying5 Tryz.underlying9 (by simp)
        have e : (w.setCell ⟨b, 1, none⟩ (.int .i64 ((p : Int) + 2))).heap.size = w.heap.size := by simp
        rw [e] at h
        exact h
      have HQ : Hid (∀ (o : Obj), GX [b] w ((w.setCell ⟨b, 1, none⟩ (.int .i64 ((p : Int) + 2))).alloc o)) := Lib.hid (fun o => HG2.out.trans (GX.q ((Q.refl _).alloc o)))
      have HQ2 : Hid (∀ (o : Obj), ScB ((w.setCell ⟨b, 1, none⟩ (.int .i64 ((p : Int) + 2))).alloc o) b s (p + 2) 0 a) := Lib.hid (fun o => HS2.out.q ((Q.refl _).alloc o))
      clear HR2
      go_wp2_with fail
      go_ret
      rw [HX.out]
      exact ⟨HQ.out _, rfl, p + 2, hp2, rfl, HQ2.out _⟩
    have n92 : ((v.toNat : Int) == 92) = false := by
      have := u8_eq v 92
      rw [show ((v.toNat : Int) == 92) = (v == 92) from this]; simpa using c92
    by_cases c47 : v = 47
    · subst c47
      have HX : Hid (r = .ok [47] (s.drop (p + 2))) := Lib.hid (by rw [← HR2.out]; rfl)
      have hconv : (convert 104 9 (.slice (some ⟨w.heap.size, 0, none⟩) 1 1)).run Tryz.prog ((w.setCell ⟨b, 1, none⟩ (.int .i64 ((p : Int) + 2))).alloc (.cells #[.int .u8 47] 5)) = .ok (.string ⟨#[byteOf 47]⟩) ((w.setCell ⟨b, 1, none⟩ (.int .i64 ((p : Int) + 2))).alloc (.cells #[.int .u8 47] 5)) := by
        have h := conv_bytes (P := Tryz.prog) (w.setCell ⟨b, 1, none⟩ (.int .i64 ((p : Int) + 2))) 104 9 5 1 [(47 : Int)] Tryz.underlying104 Tryz.underlying5 Tryz.underlying9 (by simp)
        have e : (w.setCell ⟨b, 1, none⟩ (.int .i64 ((p : Int) + 2))).heap.size = w.heap.size := by simp
        rw [e] at h
        exact h
      have HQ : Hid (∀ (o : Obj), GX [b] w ((w.setCell ⟨b, 1, none⟩ (.int .i64 ((p : Int) + 2))).alloc o)) := Lib.hid (fun o => HG2.out.trans (GX.q ((Q.refl _).alloc o)))
      have HQ2 : Hid (∀ (o : Obj), ScB ((w.setCell ⟨b, 1, none⟩ (.int .i64 ((p : Int) + 2))).alloc o) b s (p + 2) 0 a) := Lib.hid (fun o => HS2.out.q ((Q.refl _).alloc o))
      clear HR2
      go_wp2_with fail
      go_ret
      rw [HX.out]
      exact ⟨HQ.out _, rfl, p + 2, hp2, rfl, HQ2.out _⟩
    have n47 : ((v.toNat : Int) == 47) = false := by
      have := u8_eq v 47
      rw [show ((v.toNat : Int) == 47) = (v == 47) from this]; simpa using c47
    by_cases c98 : v = 98
    · subst c98
      have HX : Hid (r = .ok [8] (s.drop (p + 2))) := Lib.hid (by rw [← HR2.out]; rfl)
      clear HR2
      go_wp2_with fail
      go_ret
      rw [HX.out]
      exact ⟨HG2.out, rfl, p + 2, hp2, rfl, HS2.out⟩
    have n98 : ((v.toNat : Int) == 98) = false := by
      have := u8_eq v 98
      rw [show ((v.toNat : Int) == 98) = (v == 98) from this]; simpa using c98
    by_cases c102 : v = 102
    · subst c102
      have HX : Hid (r = .ok [12] (s.drop (p + 2))) := Lib.hid (by rw [← HR2.out]; rfl)
      clear HR2
      go_wp2_with fail
      go_ret
      rw [HX.out]
      exact ⟨HG2.out, rfl, p + 2, hp2, rfl, HS2.out⟩
    have n102 : ((v.toNat : Int) == 102) = false := by
      have := u8_eq v 102
      rw [show ((v.toNat : Int) == 102) = (v == 102) from this]; simpa using c102
    by_cases c110 : v = 110
    · subst c110
      have HX : Hid (r = .ok [10] (s.drop (p + 2))) := Lib.hid (by rw [← HR2.out]; rfl)
      clear HR2
      go_wp2_with fail
      go_ret
      rw [HX.out]
      exact ⟨HG2.out, rfl, p + 2, hp2, rfl, HS2.out⟩
    have n110 : ((v.toNat : Int) == 110) = false := by
      have := u8_eq v 110
      rw [show ((v.toNat : Int) == 110) = (v == 110) from this]; simpa using c110
    by_cases c114 : v = 114
    · subst c114
      have HX : Hid (r = .ok [13] (s.drop (p + 2))) := Lib.hid (by rw [← HR2.out]; rfl)
      clear HR2
      go_wp2_with fail
      go_ret
      rw [HX.out]
      exact ⟨HG2.out, rfl, p + 2, hp2, rfl, HS2.out⟩
    have n114 : ((v.toNat : Int) == 114) = false := by
      have := u8_eq v 114
      rw [show ((v.toNat : Int) == 114) = (v == 114) from this]; simpa using c114
    by_cases c116 : v = 116
    · subst c116
      have HX : Hid (r = .ok [9] (s.drop (p + 2))) := Lib.hid (by rw [← HR2.out]; rfl)
      clear HR2
      go_wp2_with fail
      go_ret
      rw [HX.out]
      exact ⟨HG2.out, rfl, p + 2, hp2, rfl, HS2.out⟩
    have n116 : ((v.toNat : Int) == 116) = false := by
      have := u8_eq v 116
      rw [show ((v.toNat : Int) == 116) = (v == 116) from this]; simpa using c116
    by_cases c117 : v = 117
    · subst c117
      have HX : Hid (((fourR (s.length - p) 4 0 (s.drop (p + 2))).bind fun c u => codeR (s.length - p) c u) = r) := Lib.hid (by rw [← HR2.out]; rfl)
      have HC := Lib.hid (rcode_any b s p (p + 2) a _ HS2.out hp2 hp2 hl)
      clear HR2
      go_wp2_with fail
      refine HC.out.mono ?_
      intro e w2 hP
      have HP : Hid (TxP b s a r w e w2) := Lib.hid (by
        rw [HX.out] at hP
        exact ⟨HG2.out.trans hP.1, hP.2⟩)
      clear hP HC
      cases r with
      | ok x t =>
        have he : e = .returned (.string ⟨x.toArray⟩) := HP.out.2.1
        subst he
        go_wp2_with fail
        go_ret
        exact HP.out
      | bad c n =>
        have he : e = .returned (.string ⟨#[]⟩) := HP.out.2.1
        subst he
        go_wp2_with fail
        go_ret
        exact HP.out
    have n117 : ((v.toNat : Int) == 117) = false := by
      have := u8_eq v 117
      rw [show ((v.toNat : Int) == 117) = (v == 117) from this]; simpa using c117
    have HX : Hid (r = .bad 54 (s.length - p)) := Lib.hid (by
      rw [← HR2.out, if_neg c117]
      have : simpleE v = none := by unfold simpleE; simp only [c34, c92, c47, c98, c102, c110, c114, c116, if_false, or_self, if_neg, not_false_eq_true]
      rw [this])
    have HN1 := Lib.hid (no_any b s (p + 2) 0 a 54 p _ HS2.out)
    clear HR2
    go_wp2_with fail
    refine HN1.out.mono ?_
    rintro e w2 ⟨rfl, hs2, hg2⟩
    have HP : Hid (TxP b s a r w (.returned (.string ⟨#[]⟩)) w2) := Lib.hid (by rw [HX.out]; exact txt_bad HG2.out hg2 hp2 (by omega) hs2)
    clear hs2 hg2
    go_wp2_with fail
    go_ret
    exact HP.out
end Go.Proofs.YtlhhiiemojhjdaaGreatDoor
