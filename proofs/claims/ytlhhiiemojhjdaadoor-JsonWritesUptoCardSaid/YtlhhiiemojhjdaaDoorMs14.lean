/- Texts of this proof, laid into one: LaG, LaH, LaI, LaJ, LaK, LaL, LaM, LaN, LaO, LaP. -/
import Derived.Test.YtlhhiiemojhjdaaDoorMs13
import Derived.Lib.AppendStr
set_option linter.unusedVariables false
set_option linter.unusedSimpArgs false
namespace Go.Proofs.YtlhhiiemojhjdaaDoor
open Go Go.RowKit
def utL (l : Txt) (n lo : Nat) : Nat → Nat → Nat → Nat
  | 0, _, c => if c < lo ∨ 1114111 < c ∨ (55296 ≤ c ∧ c ≤ 57343) then 0 else n
  | k + 1, i, c => if (gB l i).toNat < 128 ∨ 191 < (gB l i).toNat then 0 else utL l n lo k (i + 1) (64 * c + (gB l i).toNat - 128)
theorem utf_zero {l : Txt} (h : ¬ ∃ k, UC l.length (gB l 0).toNat (gB l 1).toNat (gB l 2).toNat (gB l 3).toNat k) : utfN l = 0 := by
  by_cases h0 : utfN l = 0
  · exact h0
  · exact absurd ⟨_, utf_cases h0⟩ h
theorem utf_other {l : Txt} (h1 : 128 ≤ (gB l 0).toNat) (h2 : (gB l 0).toNat < 194 ∨ 245 ≤ (gB l 0).toNat) : utfN l = 0 := by
  apply utf_zero
  rintro ⟨k, h⟩
  unfold UC U2 U3 U4 at h
  omega
theorem utf_two {l : Txt} (h1 : 194 ≤ (gB l 0).toNat) (h2 : (gB l 0).toNat < 224) : utfN l = if l.length < 2 then 0 else utL l 2 128 1 1 ((gB l 0).toNat - 192) := by
  have e0 := (gB l 1).toNat_lt
  have e1 := (gB l 2).toNat_lt
  have e2 := (gB l 3).toNat_lt
  rw [utL, utL]
  try simp only [Nat.reduceAdd]
  by_cases c : UC l.length (gB l 0).toNat (gB l 1).toNat (gB l 2).toNat (gB l 3).toNat 2
  · rw [utf_of c]
    unfold UC U2 U3 U4 at c
    rw [if_neg (by omega), if_neg (by omega), if_neg (by omega)]
  · rw [utf_zero (by
      rintro ⟨k, h⟩
      have hk : k = 2 := by
        clear c
        unfold UC U2 U3 U4 at h
        omega
      exact c (hk ▸ h))]
    unfold UC U2 U3 U4 at c
    by_cases c0 : l.length < 2
    · rw [if_pos c0]
    by_cases c1 : (gB l 1).toNat < 128 ∨ 191 < (gB l 1).toNat
    · rw [if_neg c0, if_pos c1]
    rw [if_neg c0, if_neg c1, if_pos (by omega)]
theorem utf_three {l : Txt} (h1 : 224 ≤ (gB l 0).toNat) (h2 : (gB l 0).toNat < 240) : utfN l = if l.length < 3 then 0 else utL l 3 2048 2 1 ((gB l 0).toNat - 224) := by
  have e0 := (gB l 1).toNat_lt
  have e1 := (gB l 2).toNat_lt
  have e2 := (gB l 3).toNat_lt
  rw [utL, utL, utL]
  try simp only [Nat.reduceAdd]
  by_cases c : UC l.length (gB l 0).toNat (gB l 1).toNat (gB l 2).toNat (gB l 3).toNat 3
  · rw [utf_of c]
    unfold UC U2 U3 U4 at c
    rw [if_neg (by omega), if_neg (by omega), if_neg (by omega), if_neg (by omega)]
  · rw [utf_zero (by
      rintro ⟨k, h⟩
      have hk : k = 3 := by
        clear c
        unfold UC U2 U3 U4 at h
        omega
      exact c (hk ▸ h))]
    unfold UC U2 U3 U4 at c
    by_cases c0 : l.length < 3
    · rw [if_pos c0]
    by_cases c1 : (gB l 1).toNat < 128 ∨ 191 < (gB l 1).toNat
    · rw [if_neg c0, if_pos c1]
    by_cases c2 : (gB l 2).toNat < 128 ∨ 191 < (gB l 2).toNat
    · rw [if_neg c0, if_neg c1, if_pos c2]
    rw [if_neg c0, if_neg c1, if_neg c2, if_pos (by omega)]
theorem utf_four {l : Txt} (h1 : 240 ≤ (gB l 0).toNat) (h2 : (gB l 0).toNat < 245) : utfN l = if l.length < 4 then 0 else utL l 4 65536 3 1 ((gB l 0).toNat - 240) := by
  have e0 := (gB l 1).toNat_lt
  have e1 := (gB l 2).toNat_lt
  have e2 := (gB l 3).toNat_lt
  rw [utL, utL, utL, utL]
  try simp only [Nat.reduceAdd]
  by_cases c : UC l.length (gB l 0).toNat (gB l 1).toNat (gB l 2).toNat (gB l 3).toNat 4
  · rw [utf_of c]
    unfold UC U2 U3 U4 at c
    rw [if_neg (by omega), if_neg (by omega), if_neg (by omega), if_neg (by omega), if_neg (by omega)]
  · rw [utf_zero (by
      rintro ⟨k, h⟩
      have hk : k = 4 := by
        clear c
        unfold UC U2 U3 U4 at h
        omega
      exact c (hk ▸ h))]
    unfold UC U2 U3 U4 at c
    by_cases c0 : l.length < 4
    · rw [if_pos c0]
    by_cases c1 : (gB l 1).toNat < 128 ∨ 191 < (gB l 1).toNat
    · rw [if_neg c0, if_pos c1]
    by_cases c2 : (gB l 2).toNat < 128 ∨ 191 < (gB l 2).toNat
    · rw [if_neg c0, if_neg c1, if_pos c2]
    by_cases c3 : (gB l 3).toNat < 128 ∨ 191 < (gB l 3).toNat
    · rw [if_neg c0, if_neg c1, if_neg c2, if_pos c3]
    rw [if_neg c0, if_neg c1, if_neg c2, if_neg c3, if_pos (by omega)]
theorem gB_drop' (s : Txt) (p i : Nat) : gB (s.drop p) i = gB s (p + i) := by unfold gB; simp [List.getD]
theorem utf_one {l : Txt} (h : l ≠ []) (h1 : (gB l 0).toNat < 128) : utfN l = 1 := by
  cases l with
  | nil => exact absurd rfl h
  | cons b t => exact utf_ascii b t h1
def pwU : Nat → Nat
  | 3 => 64
  | 2 => 4096
  | 1 => 262144
  | _ => 16777216
theorem pwU_step {k C B : Nat} (hk : k + 1 ≤ 3) (hC : C < pwU (k + 1)) (hB : B ≤ 191) : 64 * C + B - 128 < pwU k := by
  rcases k with _ | _ | _ | k
  · have e1 : pwU 0 = 16777216 := rfl
    have e2 : pwU 1 = 262144 := rfl
    rw [e1]; rw [e2] at hC; omega
  · have e1 : pwU 1 = 262144 := rfl
    have e2 : pwU 2 = 4096 := rfl
    rw [e1]; rw [e2] at hC; omega
  · have e1 : pwU 2 = 4096 := rfl
    have e2 : pwU 3 = 64 := rfl
    rw [e1]; rw [e2] at hC; omega
  · omega
theorem pwU_le {k : Nat} : pwU k ≤ 16777216 := by
  unfold pwU; split <;> decide
theorem pwU_ge {k C : Nat} (h : C < 64) : C < pwU k := by
  have : 64 ≤ pwU k := by unfold pwU; split <;> decide
  omega
set_option maxRecDepth 100000 in
set_option maxHeartbeats 4000000 in
theorem rutf_any (s : Txt) (p : Nat) (w : World) (hl : s.length ≤ 9223372036854775807) (hp0 : p ≤ 9223372036854775807) :
    Calls Tryd.prog 110 #[.string ⟨s.toArray⟩, .int .i64 (p : Int)] w fun e w' => e = .returned (.int .i64 ((utfN (s.drop p) : Nat) : Int)) ∧ Q w w' := by
  obtain ⟨r, hr⟩ : ∃ r, utfN (s.drop p) = r := ⟨_, rfl⟩
  rw [hr]
  have HR := Lib.hid hr
  have HQ := Lib.hid (Q.refl w)
  clear hr
  go_enter Tryd.func110, Tryd.ntmps110
  by_cases hp : s.length ≤ p
  · have hd : decide (s.length ≤ p) = true := by simpa using hp
    have HX : Hid ((0 : Nat) = r) := Lib.hid (by rw [← HR.out, List.drop_of_length_le hp]; rfl)
    clear HR
    go_wp2_with fail
    go_ret
    exact ⟨ret_int (by rw [← HX.out]; rfl), HQ.out⟩
  · have hd : decide (s.length ≤ p) = false := by simpa using hp
    have hd2 : decide (p < s.length) = true := by simp; omega
    have hne : s.drop p ≠ [] := by intro e; have := congrArg List.length e; simp at this; omega
    obtain ⟨v, hv⟩ : ∃ v, gB s p = v := ⟨_, rfl⟩
    have hv0 : gB (s.drop p) 0 = v := by rw [gB_drop', Nat.add_zero, hv]
    have hvl := v.toNat_lt
    by_cases c1 : v.toNat < 128
    · have g1 : decide ((v.toNat : Int) < 128) = true := by simp; omega
      have HX : Hid ((1 : Nat) = r) := Lib.hid (by rw [← HR.out, utf_one hne (by rw [hv0]; exact c1)])
      clear HR hne
      go_wp2_with fail
      go_ret
      exact ⟨ret_int (by rw [← HX.out]; rfl), HQ.out⟩
    · have g1 : decide ((v.toNat : Int) < 128) = false := by simp; omega
      by_cases c2 : v.toNat < 194 ∨ 245 ≤ v.toNat
      · have HX : Hid ((0 : Nat) = r) := Lib.hid (by rw [← HR.out, utf_other (by rw [hv0]; omega) (by rw [hv0]; exact c2)])
        clear HR hne
        rcases c2 with c2 | c2
        · have g2 : decide ((194 : Int) ≤ (v.toNat : Int)) = false := by simp; omega
          have g3 : decide ((224 : Int) ≤ (v.toNat : Int)) = false := by simp; omega
          have g4 : decide ((240 : Int) ≤ (v.toNat : Int)) = false := by simp; omega
          go_wp2_with fail
          go_ret
          exact ⟨ret_int (by rw [← HX.out]; rfl), HQ.out⟩
        · have g2 : decide ((194 : Int) ≤ (v.toNat : Int)) = true := by simp; omega
          have g3 : decide ((224 : Int) ≤ (v.toNat : Int)) = true := by simp; omega
          have g4 : decide ((240 : Int) ≤ (v.toNat : Int)) = true := by simp; omega
          have g5 : decide ((v.toNat : Int) < 224) = false := by simp; omega
          have g6 : decide ((v.toNat : Int) < 240) = false := by simp; omega
          have g7 : decide ((v.toNat : Int) < 245) = false := by simp; omega
          go_wp2_with fail
          go_ret
          exact ⟨ret_int (by rw [← HX.out]; rfl), HQ.out⟩
      · by_cases c3 : v.toNat < 224
        · have HE : Hid ((if s.length - p < 2 then 0 else utL (s.drop p) 2 128 1 1 (v.toNat - 192)) = r) := Lib.hid (by
            rw [← HR.out, utf_two (by rw [hv0]; omega) (by rw [hv0]; omega), hv0, List.length_drop])
          have g2 : decide ((194 : Int) ≤ (v.toNat : Int)) = true := by simp; omega
          have g5 : decide ((v.toNat : Int) < 224) = true := by simp; omega
          have hsub : ((v.toNat : Int) - 192) = ((v.toNat - 192 : Nat) : Int) := by omega
          have hc0 : v.toNat - 192 < 64 := by omega
          obtain ⟨c0, hc0e⟩ : ∃ c0, v.toNat - 192 = c0 := ⟨_, rfl⟩
          rw [hc0e] at HE hsub hc0
          by_cases hn : s.length - p < 2
          · have g9 : decide ((s.length : Int) - (p : Int) < 2) = true := by simp; omega
            have HX : Hid ((0 : Nat) = r) := Lib.hid (by rw [← HE.out, if_pos hn])
            clear HE HR hv0 hc0e hne
            go_wp2_with fail
            go_ret
            exact ⟨ret_int (by rw [← HX.out]; rfl), HQ.out⟩
          · have g9 : decide ((s.length : Int) - (p : Int) < 2) = false := by simp; omega
            have HL0 : Hid (utL (s.drop p) 2 128 1 1 c0 = r) := Lib.hid (by rw [← HE.out, if_neg hn])
            clear HE HR hv0 hc0e hne
            go_upto_region 23 with (fail)
            clear hsub
            have hnn : 2 ≤ s.length - p := by omega
            clear hn g9
            go_wp2_with fail
            go_loopg [5, 8] 2 (fun gk c i wx => ∃ (k C I : Nat), gk = k + 1 ∧ I + k = 2 ∧ 1 ≤ I ∧ C < pwU k ∧ c = .int .i64 (C : Int) ∧ i = .int .i64 (I : Int) ∧ Hid (utL (s.drop p) 2 128 k I C = r ∧ Q w wx))
            case atStart => exact ⟨1, c0, 1, rfl, rfl, by omega, pwU_ge hc0, rfl, by rfl, Lib.hid ⟨HL0.out, HQ.out⟩⟩
            case round =>
              obtain ⟨k, C, I, rfl, hI, hI1, hC, rfl, rfl, HI⟩ := hrel
              rename World => wa
              have hC2 : C < 16777216 := Nat.lt_of_lt_of_le hC pwU_le
              rcases k with _ | k
              · have hd3 : decide ((I : Int) < 2) = false := by simp; omega
                have HX : Hid ((if C < 128 ∨ 1114111 < C ∨ (55296 ≤ C ∧ C ≤ 57343) then 0 else 2) = r ∧ Q w wa) := Lib.hid ⟨by have := HI.out.1; rw [utL] at this; exact this, HI.out.2⟩
                clear HI hC
                by_cases d1 : C < 128
                · have y1 : decide ((C : Int) < 128) = true := by simp; omega
                  have HY : Hid ((0 : Nat) = r) := Lib.hid (by rw [← HX.out.1, if_pos (by omega)])
                  go_wp2_with fail
                  go_ret
                  exact ⟨ret_int (by rw [← HY.out]; rfl), HX.out.2⟩
                · have y1 : decide ((C : Int) < 128) = false := by simp; omega
                  by_cases d2 : 1114111 < C
                  · have y2 : decide ((1114111 : Int) < (C : Int)) = true := by simp; omega
                    have HY : Hid ((0 : Nat) = r) := Lib.hid (by rw [← HX.out.1, if_pos (by omega)])
                    go_wp2_with fail
                    go_ret
                    exact ⟨ret_int (by rw [← HY.out]; rfl), HX.out.2⟩
                  · have y2 : decide ((1114111 : Int) < (C : Int)) = false := by simp; omega
                    by_cases d3 : 55296 ≤ C
                    · have y3 : decide ((55296 : Int) ≤ (C : Int)) = true := by simp; omega
                      by_cases d4 : C ≤ 57343
                      · have y4 : decide ((C : Int) ≤ 57343) = true := by simp; omega
                        have HY : Hid ((0 : Nat) = r) := Lib.hid (by rw [← HX.out.1, if_pos (by omega)])
                        go_wp2_with fail
                        go_ret
                        exact ⟨ret_int (by rw [← HY.out]; rfl), HX.out.2⟩
                      · have y4 : decide ((C : Int) ≤ 57343) = false := by simp; omega
                        have HY : Hid ((2 : Nat) = r) := Lib.hid (by rw [← HX.out.1, if_neg (by omega)])
                        go_wp2_with fail
                        go_ret
                        exact ⟨ret_int (by rw [← HY.out]; rfl), HX.out.2⟩
                    · have y3 : decide ((55296 : Int) ≤ (C : Int)) = false := by simp; omega
                      have HY : Hid ((2 : Nat) = r) := Lib.hid (by rw [← HX.out.1, if_neg (by omega)])
                      go_wp2_with fail
                      go_ret
                      exact ⟨ret_int (by rw [← HY.out]; rfl), HX.out.2⟩
              · have hd3 : decide ((I : Int) < 2) = true := by simp; omega
                have hix : decide ((p : Int) + (I : Int) < (s.length : Int)) = true := by simp; omega
                have hiy : decide (p + I < s.length) = true := by simp; omega
                obtain ⟨u, hu⟩ : ∃ u, gB s (p + I) = u := ⟨_, rfl⟩
                have hul := u.toNat_lt
                have HE : Hid ((if u.toNat < 128 ∨ 191 < u.toNat then 0 else utL (s.drop p) 2 128 k (I + 1) (64 * C + u.toNat - 128)) = r ∧ Q w wa) := Lib.hid ⟨by have := HI.out.1; rw [utL, gB_drop', hu] at this; exact this, HI.out.2⟩
                clear HI
                by_cases d1 : u.toNat < 128
                · have y1 : decide ((u.toNat : Int) < 128) = true := by simp; omega
                  have HY : Hid ((0 : Nat) = r) := Lib.hid (by rw [← HE.out.1, if_pos (by omega)])
                  go_wp2_with fail
                  go_ret
                  exact ⟨ret_int (by rw [← HY.out]; rfl), HE.out.2⟩
                · have y1 : decide ((u.toNat : Int) < 128) = false := by simp; omega
                  by_cases d2 : 191 < u.toNat
                  · have y2 : decide ((191 : Int) < (u.toNat : Int)) = true := by simp; omega
                    have HY : Hid ((0 : Nat) = r) := Lib.hid (by rw [← HE.out.1, if_pos (by omega)])
                    go_wp2_with fail
                    go_ret
                    exact ⟨ret_int (by rw [← HY.out]; rfl), HE.out.2⟩
                  · have y2 : decide ((191 : Int) < (u.toNat : Int)) = false := by simp; omega
                    have hs := pwU_step (by omega) hC (by omega : u.toNat ≤ 191)
                    have hcc : (64 * (C : Int) + (u.toNat : Int)) - 128 = ((64 * C + u.toNat - 128 : Nat) : Int) := by omega
                    have HN : Hid (utL (s.drop p) 2 128 k (I + 1) (64 * C + u.toNat - 128) = r ∧ Q w wa) := Lib.hid ⟨by rw [← HE.out.1, if_neg (by omega)], HE.out.2⟩
                    clear HE
                    go_wp2_with fail
                    go_roundg (k + 1)
                    case measure => omega
                    case rel => exact ⟨k, 64 * C + u.toNat - 128, I + 1, rfl, by omega, by omega, hs, by first | rfl | (rw [hcc]), by simp, HN⟩
        · by_cases c4 : v.toNat < 240
          · have HE : Hid ((if s.length - p < 3 then 0 else utL (s.drop p) 3 2048 2 1 (v.toNat - 224)) = r) := Lib.hid (by
              rw [← HR.out, utf_three (by rw [hv0]; omega) (by rw [hv0]; omega), hv0, List.length_drop])
            have g2 : decide ((194 : Int) ≤ (v.toNat : Int)) = true := by simp; omega
            have g5 : decide ((v.toNat : Int) < 224) = false := by simp; omega
            have g3 : decide ((224 : Int) ≤ (v.toNat : Int)) = true := by simp; omega
            have g6 : decide ((v.toNat : Int) < 240) = true := by simp; omega
            have hsub : ((v.toNat : Int) - 224) = ((v.toNat - 224 : Nat) : Int) := by omega
            have hc0 : v.toNat - 224 < 64 := by omega
            obtain ⟨c0, hc0e⟩ : ∃ c0, v.toNat - 224 = c0 := ⟨_, rfl⟩
            rw [hc0e] at HE hsub hc0
            by_cases hn : s.length - p < 3
            · have g9 : decide ((s.length : Int) - (p : Int) < 3) = true := by simp; omega
              have HX : Hid ((0 : Nat) = r) := Lib.hid (by rw [← HE.out, if_pos hn])
              clear HE HR hv0 hc0e hne
              go_wp2_with fail
              go_ret
              exact ⟨ret_int (by rw [← HX.out]; rfl), HQ.out⟩
            · have g9 : decide ((s.length : Int) - (p : Int) < 3) = false := by simp; omega
              have HL0 : Hid (utL (s.drop p) 3 2048 2 1 c0 = r) := Lib.hid (by rw [← HE.out, if_neg hn])
              clear HE HR hv0 hc0e hne
              go_upto_region 23 with (fail)
              clear hsub
              have hnn : 3 ≤ s.length - p := by omega
              clear hn g9
              go_wp2_with fail
              go_loopg [5, 8] 3 (fun gk c i wx => ∃ (k C I : Nat), gk = k + 1 ∧ I + k = 3 ∧ 1 ≤ I ∧ C < pwU k ∧ c = .int .i64 (C : Int) ∧ i = .int .i64 (I : Int) ∧ Hid (utL (s.drop p) 3 2048 k I C = r ∧ Q w wx))
              case atStart => exact ⟨2, c0, 1, rfl, rfl, by omega, pwU_ge hc0, rfl, by rfl, Lib.hid ⟨HL0.out, HQ.out⟩⟩
              case round =>
                obtain ⟨k, C, I, rfl, hI, hI1, hC, rfl, rfl, HI⟩ := hrel
                rename World => wa
                have hC2 : C < 16777216 := Nat.lt_of_lt_of_le hC pwU_le
                rcases k with _ | k
                · have hd3 : decide ((I : Int) < 3) = false := by simp; omega
                  have HX : Hid ((if C < 2048 ∨ 1114111 < C ∨ (55296 ≤ C ∧ C ≤ 57343) then 0 else 3) = r ∧ Q w wa) := Lib.hid ⟨by have := HI.out.1; rw [utL] at this; exact this, HI.out.2⟩
                  clear HI hC
                  by_cases d1 : C < 2048
                  · have y1 : decide ((C : Int) < 2048) = true := by simp; omega
                    have HY : Hid ((0 : Nat) = r) := Lib.hid (by rw [← HX.out.1, if_pos (by omega)])
                    go_wp2_with fail
                    go_ret
                    exact ⟨ret_int (by rw [← HY.out]; rfl), HX.out.2⟩
                  · have y1 : decide ((C : Int) < 2048) = false := by simp; omega
                    by_cases d2 : 1114111 < C
                    · have y2 : decide ((1114111 : Int) < (C : Int)) = true := by simp; omega
                      have HY : Hid ((0 : Nat) = r) := Lib.hid (by rw [← HX.out.1, if_pos (by omega)])
                      go_wp2_with fail
                      go_ret
                      exact ⟨ret_int (by rw [← HY.out]; rfl), HX.out.2⟩
                    · have y2 : decide ((1114111 : Int) < (C : Int)) = false := by simp; omega
                      by_cases d3 : 55296 ≤ C
                      · have y3 : decide ((55296 : Int) ≤ (C : Int)) = true := by simp; omega
                        by_cases d4 : C ≤ 57343
                        · have y4 : decide ((C : Int) ≤ 57343) = true := by simp; omega
                          have HY : Hid ((0 : Nat) = r) := Lib.hid (by rw [← HX.out.1, if_pos (by omega)])
                          go_wp2_with fail
                          go_ret
                          exact ⟨ret_int (by rw [← HY.out]; rfl), HX.out.2⟩
                        · have y4 : decide ((C : Int) ≤ 57343) = false := by simp; omega
                          have HY : Hid ((3 : Nat) = r) := Lib.hid (by rw [← HX.out.1, if_neg (by omega)])
                          go_wp2_with fail
                          go_ret
                          exact ⟨ret_int (by rw [← HY.out]; rfl), HX.out.2⟩
                      · have y3 : decide ((55296 : Int) ≤ (C : Int)) = false := by simp; omega
                        have HY : Hid ((3 : Nat) = r) := Lib.hid (by rw [← HX.out.1, if_neg (by omega)])
                        go_wp2_with fail
                        go_ret
                        exact ⟨ret_int (by rw [← HY.out]; rfl), HX.out.2⟩
                · have hd3 : decide ((I : Int) < 3) = true := by simp; omega
                  have hix : decide ((p : Int) + (I : Int) < (s.length : Int)) = true := by simp; omega
                  have hiy : decide (p + I < s.length) = true := by simp; omega
                  obtain ⟨u, hu⟩ : ∃ u, gB s (p + I) = u := ⟨_, rfl⟩
                  have hul := u.toNat_lt
                  have HE : Hid ((if u.toNat < 128 ∨ 191 < u.toNat then 0 else utL (s.drop p) 3 2048 k (I + 1) (64 * C + u.toNat - 128)) = r ∧ Q w wa) := Lib.hid ⟨by have := HI.out.1; rw [utL, gB_drop', hu] at this; exact this, HI.out.2⟩
                  clear HI
                  by_cases d1 : u.toNat < 128
                  · have y1 : decide ((u.toNat : Int) < 128) = true := by simp; omega
                    have HY : Hid ((0 : Nat) = r) := Lib.hid (by rw [← HE.out.1, if_pos (by omega)])
                    go_wp2_with fail
                    go_ret
                    exact ⟨ret_int (by rw [← HY.out]; rfl), HE.out.2⟩
                  · have y1 : decide ((u.toNat : Int) < 128) = false := by simp; omega
                    by_cases d2 : 191 < u.toNat
                    · have y2 : decide ((191 : Int) < (u.toNat : Int)) = true := by simp; omega
                      have HY : Hid ((0 : Nat) = r) := Lib.hid (by rw [← HE.out.1, if_pos (by omega)])
                      go_wp2_with fail
                      go_ret
                      exact ⟨ret_int (by rw [← HY.out]; rfl), HE.out.2⟩
                    · have y2 : decide ((191 : Int) < (u.toNat : Int)) = false := by simp; omega
                      have hs := pwU_step (by omega) hC (by omega : u.toNat ≤ 191)
                      have hcc : (64 * (C : Int) + (u.toNat : Int)) - 128 = ((64 * C + u.toNat - 128 : Nat) : Int) := by omega
                      have HN : Hid (utL (s.drop p) 3 2048 k (I + 1) (64 * C + u.toNat - 128) = r ∧ Q w wa) := Lib.hid ⟨by rw [← HE.out.1, if_neg (by omega)], HE.out.2⟩
                      clear HE
                      go_wp2_with fail
                      go_roundg (k + 1)
                      case measure => omega
                      case rel => exact ⟨k, 64 * C + u.toNat - 128, I + 1, rfl, by omega, by omega, hs, by first | rfl | (rw [hcc]), by simp, HN⟩
          · have HE : Hid ((if s.length - p < 4 then 0 else utL (s.drop p) 4 65536 3 1 (v.toNat - 240)) = r) := Lib.hid (by
              rw [← HR.out, utf_four (by rw [hv0]; omega) (by rw [hv0]; omega), hv0, List.length_drop])
            have g2 : decide ((194 : Int) ≤ (v.toNat : Int)) = true := by simp; omega
            have g5 : decide ((v.toNat : Int) < 224) = false := by simp; omega
            have g3 : decide ((224 : Int) ≤ (v.toNat : Int)) = true := by simp; omega
            have g6 : decide ((v.toNat : Int) < 240) = false := by simp; omega
            have g4 : decide ((240 : Int) ≤ (v.toNat : Int)) = true := by simp; omega
            have g7 : decide ((v.toNat : Int) < 245) = true := by simp; omega
            have hsub : ((v.toNat : Int) - 240) = ((v.toNat - 240 : Nat) : Int) := by omega
            have hc0 : v.toNat - 240 < 64 := by omega
            obtain ⟨c0, hc0e⟩ : ∃ c0, v.toNat - 240 = c0 := ⟨_, rfl⟩
            rw [hc0e] at HE hsub hc0
            by_cases hn : s.length - p < 4
            · have g9 : decide ((s.length : Int) - (p : Int) < 4) = true := by simp; omega
              have HX : Hid ((0 : Nat) = r) := Lib.hid (by rw [← HE.out, if_pos hn])
              clear HE HR hv0 hc0e hne
              go_wp2_with fail
              go_ret
              exact ⟨ret_int (by rw [← HX.out]; rfl), HQ.out⟩
            · have g9 : decide ((s.length : Int) - (p : Int) < 4) = false := by simp; omega
              have HL0 : Hid (utL (s.drop p) 4 65536 3 1 c0 = r) := Lib.hid (by rw [← HE.out, if_neg hn])
              clear HE HR hv0 hc0e hne
              go_upto_region 23 with (fail)
              clear hsub
              have hnn : 4 ≤ s.length - p := by omega
              clear hn g9
              go_wp2_with fail
              go_loopg [5, 8] 4 (fun gk c i wx => ∃ (k C I : Nat), gk = k + 1 ∧ I + k = 4 ∧ 1 ≤ I ∧ C < pwU k ∧ c = .int .i64 (C : Int) ∧ i = .int .i64 (I : Int) ∧ Hid (utL (s.drop p) 4 65536 k I C = r ∧ Q w wx))
              case atStart => exact ⟨3, c0, 1, rfl, rfl, by omega, pwU_ge hc0, rfl, by rfl, Lib.hid ⟨HL0.out, HQ.out⟩⟩
              case round =>
                obtain ⟨k, C, I, rfl, hI, hI1, hC, rfl, rfl, HI⟩ := hrel
                rename World => wa
                have hC2 : C < 16777216 := Nat.lt_of_lt_of_le hC pwU_le
                rcases k with _ | k
                · have hd3 : decide ((I : Int) < 4) = false := by simp; omega
                  have HX : Hid ((if C < 65536 ∨ 1114111 < C ∨ (55296 ≤ C ∧ C ≤ 57343) then 0 else 4) = r ∧ Q w wa) := Lib.hid ⟨by have := HI.out.1; rw [utL] at this; exact this, HI.out.2⟩
                  clear HI hC
                  by_cases d1 : C < 65536
                  · have y1 : decide ((C : Int) < 65536) = true := by simp; omega
                    have HY : Hid ((0 : Nat) = r) := Lib.hid (by rw [← HX.out.1, if_pos (by omega)])
                    go_wp2_with fail
                    go_ret
                    exact ⟨ret_int (by rw [← HY.out]; rfl), HX.out.2⟩
                  · have y1 : decide ((C : Int) < 65536) = false := by simp; omega
                    by_cases d2 : 1114111 < C
                    · have y2 : decide ((1114111 : Int) < (C : Int)) = true := by simp; omega
                      have HY : Hid ((0 : Nat) = r) := Lib.hid (by rw [← HX.out.1, if_pos (by omega)])
                      go_wp2_with fail
                      go_ret
                      exact ⟨ret_int (by rw [← HY.out]; rfl), HX.out.2⟩
                    · have y2 : decide ((1114111 : Int) < (C : Int)) = false := by simp; omega
                      by_cases d3 : 55296 ≤ C
                      · have y3 : decide ((55296 : Int) ≤ (C : Int)) = true := by simp; omega
                        by_cases d4 : C ≤ 57343
                        · have y4 : decide ((C : Int) ≤ 57343) = true := by simp; omega
                          have HY : Hid ((0 : Nat) = r) := Lib.hid (by rw [← HX.out.1, if_pos (by omega)])
                          go_wp2_with fail
                          go_ret
                          exact ⟨ret_int (by rw [← HY.out]; rfl), HX.out.2⟩
                        · have y4 : decide ((C : Int) ≤ 57343) = false := by simp; omega
                          have HY : Hid ((4 : Nat) = r) := Lib.hid (by rw [← HX.out.1, if_neg (by omega)])
                          go_wp2_with fail
                          go_ret
                          exact ⟨ret_int (by rw [← HY.out]; rfl), HX.out.2⟩
                      · have y3 : decide ((55296 : Int) ≤ (C : Int)) = false := by simp; omega
                        have HY : Hid ((4 : Nat) = r) := Lib.hid (by rw [← HX.out.1, if_neg (by omega)])
                        go_wp2_with fail
                        go_ret
                        exact ⟨ret_int (by rw [← HY.out]; rfl), HX.out.2⟩
                · have hd3 : decide ((I : Int) < 4) = true := by simp; omega
                  have hix : decide ((p : Int) + (I : Int) < (s.length : Int)) = true := by simp; omega
                  have hiy : decide (p + I < s.length) = true := by simp; omega
                  obtain ⟨u, hu⟩ : ∃ u, gB s (p + I) = u := ⟨_, rfl⟩
                  have hul := u.toNat_lt
                  have HE : Hid ((if u.toNat < 128 ∨ 191 < u.toNat then 0 else utL (s.drop p) 4 65536 k (I + 1) (64 * C + u.toNat - 128)) = r ∧ Q w wa) := Lib.hid ⟨by have := HI.out.1; rw [utL, gB_drop', hu] at this; exact this, HI.out.2⟩
                  clear HI
                  by_cases d1 : u.toNat < 128
                  · have y1 : decide ((u.toNat : Int) < 128) = true := by simp; omega
                    have HY : Hid ((0 : Nat) = r) := Lib.hid (by rw [← HE.out.1, if_pos (by omega)])
                    go_wp2_with fail
                    go_ret
                    exact ⟨ret_int (by rw [← HY.out]; rfl), HE.out.2⟩
                  · have y1 : decide ((u.toNat : Int) < 128) = false := by simp; omega
                    by_cases d2 : 191 < u.toNat
                    · have y2 : decide ((191 : Int) < (u.toNat : Int)) = true := by simp; omega
                      have HY : Hid ((0 : Nat) = r) := Lib.hid (by rw [← HE.out.1, if_pos (by omega)])
                      go_wp2_with fail
                      go_ret
                      exact ⟨ret_int (by rw [← HY.out]; rfl), HE.out.2⟩
                    · have y2 : decide ((191 : Int) < (u.toNat : Int)) = false := by simp; omega
                      have hs := pwU_step (by omega) hC (by omega : u.toNat ≤ 191)
                      have hcc : (64 * (C : Int) + (u.toNat : Int)) - 128 = ((64 * C + u.toNat - 128 : Nat) : Int) := by omega
                      have HN : Hid (utL (s.drop p) 4 65536 k (I + 1) (64 * C + u.toNat - 128) = r ∧ Q w wa) := Lib.hid ⟨by rw [← HE.out.1, if_neg (by omega)], HE.out.2⟩
                      clear HE
                      go_wp2_with fail
                      go_roundg (k + 1)
                      case measure => omega
                      case rel => exact ⟨k, 64 * C + u.toNat - 128, I + 1, rfl, by omega, by omega, hs, by first | rfl | (rw [hcc]), by simp, HN⟩
end Go.Proofs.YtlhhiiemojhjdaaDoor
set_option linter.unusedVariables false
set_option linter.unusedSimpArgs false
namespace Go.Proofs.YtlhhiiemojhjdaaDoor
open Go Go.RowKit
end Go.Proofs.YtlhhiiemojhjdaaDoor
set_option linter.unusedVariables false
set_option linter.unusedSimpArgs false
namespace Go.Proofs.YtlhhiiemojhjdaaDoor
open Go Go.RowKit
def OwnT (B : Nat) (w : World) (v : Value) (b : Txt) : Prop := w.ownsRow B 5 1 v b.length (b.map u8V)
theorem OwnT.nil (B : Nat) (w : World) : OwnT B w (.slice none 0 0) [] := ⟨rfl, .inl ⟨rfl, rfl⟩⟩
theorem OwnT.gx {B : Nat} {S : List Nat} {w w' : World} {v : Value} {b : Txt} (h : OwnT B w v b) (hg : GX S w w') (hS : ∀ k ∈ S, k < B) : OwnT B w' v b := by
  refine ⟨h.1, ?_⟩
  rcases h.2 with h2 | ⟨g, cap, cur, hv, h1, h2, h3⟩
  · exact .inl h2
  · exact .inr ⟨g, cap, cur, hv, h1, hg.heap (fun hm => by have := hS g hm; omega) h2, h3⟩
theorem OwnT.block {B : Nat} {w : World} {v : Value} {b : Txt} (h : OwnT B w v b) {k : Nat} (hk : v.ownBlock = some k) : B ≤ k := by
  rcases h.2 with ⟨rfl, _⟩ | ⟨g, cap, cur, rfl, h1, _⟩
  · cases hk
  · simp [Value.ownBlock] at hk; omega
theorem OwnT.form {B : Nat} {w : World} {v : Value} {b : Txt} (h : OwnT B w v b) : ∃ A c, v = .slice A b.length c := by
  obtain ⟨A, c, h1, _⟩ := row_cells h h.1
  exact ⟨A, c, h1⟩
theorem OwnT.conv {w0 w : World} {v : Value} {b : Txt} (h : OwnT w0.heap.size w v b) : (convert 68 9 v).run Tryd.prog w = .ok (.string ⟨b.toArray⟩) w := conv_b (OwnB.of_row h)
def TyS (w0 : World) (b : Nat) (s : Txt) (q : Nat) (c a : Int) (v : Value) (acc : Txt) (w : World) : Prop := OwnT w0.heap.size w v acc ∧ GX [b] w0 w ∧ ScB w b s q c a
theorem TyS.gx {w0 : World} {b : Nat} {s : Txt} {q : Nat} {c a : Int} {v : Value} {acc : Txt} {w : World} (h : TyS w0 b s q c a v acc w) {S : List Nat} {w' : World} (hb : b < w0.heap.size) (hg : w.grownBy w' v.ownBlock) {v' : Value} {acc' : Txt} (ho : OwnT w0.heap.size w' v' acc') : TyS w0 b s q c a v' acc' w' := by
  have hne : ∀ k, k < w0.heap.size → some k ≠ v.ownBlock := fun k hk e => by have := h.1.block e.symm; omega
  refine ⟨ho, ⟨hg.os.trans h.2.1.os, hg.tape.trans h.2.1.tape, hg.output.trans h.2.1.output, Nat.le_trans h.2.1.size hg.size, fun k hk hn => ?_⟩, ?_⟩
  · rw [hg.block k (Nat.lt_of_lt_of_le hk h.2.1.size) (hne k hk)]; exact h.2.1.block k hk hn
  · unfold ScB
    rw [hg.block b (lt_of_heap h.2.2) (hne b hb)]; exact h.2.2
theorem TyS.q {w0 : World} {b : Nat} {s : Txt} {q : Nat} {c a : Int} {v : Value} {acc : Txt} {w w' : World} (h : TyS w0 b s q c a v acc w) (hq : Q w w') : TyS w0 b s q c a v acc w' :=
  ⟨h.1.gx (GX.q (S := []) hq) (by simp), h.2.1.trans (GX.q hq), h.2.2.q hq⟩
theorem TyS.put {w0 : World} {b : Nat} {s : Txt} {q : Nat} {c a : Int} {v : Value} {acc : Txt} {w w' : World} (h : TyS w0 b s q c a v acc w) (hb : b < w0.heap.size) (hg : GX [b] w w') {q' : Nat} {c' a' : Int} (hs : ScB w' b s q' c' a') : TyS w0 b s q' c' a' v acc w' :=
  ⟨h.1.gx hg (by simp; exact hb), h.2.1.trans hg, hs⟩
theorem utf_bound {s : Txt} {q : Nat} (h : utfN (s.drop q) ≠ 0) : q + utfN (s.drop q) ≤ s.length := by
  have := utf_cases h
  unfold UC at this
  rw [List.length_drop] at this
  omega
end Go.Proofs.YtlhhiiemojhjdaaDoor
set_option linter.unusedVariables false
set_option linter.unusedSimpArgs false
namespace Go.Proofs.YtlhhiiemojhjdaaDoor
open Go Go.RowKit
def SlF (v : Value) : Prop := ∃ A n c, v = .slice A n c
def VlP (d b : Nat) (s : Txt) (a : Int) (r : PR JsonD) (w : World) (e : Ending) (w' : World) : Prop := GX [b] w w' ∧
  match r with
  | .ok v t => (∃ un uk, e = .returned (.agg (cellJ v un uk).toArray) ∧ JO w' v w.heap.size w'.heap.size un uk) ∧ ∃ q, q ≤ s.length ∧ s.drop q = t ∧ ScB w' b s q 0 a
  | .bad c n => (∃ kk kt un uk, e = .returned (.agg (jsonC kk kt un uk).toArray) ∧ SlF un ∧ SlF uk) ∧ ∃ q, q ≤ s.length + d ∧ c ≠ 0 ∧ ScB w' b s q (c : Int) ((s.length - n : Nat) : Int)
theorem VlP.any {d b : Nat} {s : Txt} {a : Int} {r : PR JsonD} {w : World} {e : Ending} {w' : World} (h : VlP d b s a r w e w') : ∃ kk kt un uk, e = .returned (.agg (jsonC kk kt un uk).toArray) ∧ SlF un ∧ SlF uk ∧ GX [b] w w' ∧ ∃ q c a', q ≤ s.length + d ∧ ScB w' b s q c a' ∧
    ((∃ v t, r = .ok v t ∧ jsonC kk kt un uk = cellJ v un uk ∧ JO w' v w.heap.size w'.heap.size un uk ∧ c = 0 ∧ a' = a ∧ q ≤ s.length ∧ s.drop q = t) ∨ (∃ m k : Nat, r = .bad m k ∧ m ≠ 0 ∧ c = (m : Int) ∧ a' = ((s.length - k : Nat) : Int))) := by
  obtain ⟨hg, h⟩ := h
  cases r with
  | ok v t =>
    obtain ⟨⟨un, uk, rfl, hj⟩, q, hq, hd, hs⟩ := h
    exact ⟨v.kind, v.text, un, uk, rfl, (jo_form hj).1, (jo_form hj).2, hg, q, 0, a, by omega, hs, .inl ⟨v, t, rfl, rfl, hj, rfl, rfl, hq, hd⟩⟩
  | bad m k =>
    obtain ⟨⟨kk, kt, un, uk, rfl, h1, h2⟩, q, hq, hm, hs⟩ := h
    exact ⟨kk, kt, un, uk, rfl, h1, h2, hg, q, m, _, hq, hs, .inr ⟨m, k, rfl, hm, rfl, rfl⟩⟩
theorem rowJ_one {k : Int} {t : Txt} {un uk : Value} (h1 : SlF un) (h2 : SlF uk) : (jsonC k t un uk).toArray.all (·.oneCell') = true := by
  obtain ⟨_, _, _, rfl⟩ := h1
  obtain ⟨_, _, _, rfl⟩ := h2
  simp [jsonC, Value.oneCell']
theorem rowJ_sz (k : Int) (t : Txt) (un uk : Value) : (Tryd.prog.info? 40).map (·.size) = some (jsonC k t un uk).toArray.size := info_sz (.mk k t [] []) un uk
theorem val_exit {w wa : World} {b rv jb q : Nat} {s : Txt} {c a' k : Int} {vn vk : Value} (hrb : b < rv) (hw0 : w.heap.size ≤ rv) (hjb : rv < jb) (hbl : b < w.heap.size) (hg : GX [b] w wa) (hz : wa.heap[rv]? = some (.cells zeroC.toArray 40 (0, 0))) (hs : ScB wa b s q c a')
    (hb : wa.heap[jb]? = some (.cells (jsonC k [] vn vk).toArray 40 (0, 0))) :
    (wa.setCell ⟨b, 1, none⟩ (.int .i64 ((q : Int) + 1))).heap[jb]? = some (.cells (jsonC k [] vn vk).toArray 40 (0, 0)) ∧
    (wa.setCell ⟨b, 1, none⟩ (.int .i64 ((q : Int) + 1))).heap[rv]? = some (.cells zeroC.toArray 40 (0, 0)) ∧
    GX [b] w ((wa.setCell ⟨b, 1, none⟩ (.int .i64 ((q : Int) + 1))).setRow rv (jsonC k [] vn vk).toArray) ∧ ScB ((wa.setCell ⟨b, 1, none⟩ (.int .i64 ((q : Int) + 1))).setRow rv (jsonC k [] vn vk).toArray) b s (q + 1) c a' ∧
    ((wa.setCell ⟨b, 1, none⟩ (.int .i64 ((q : Int) + 1))).setRow rv (jsonC k [] vn vk).toArray).heap[rv]? = some (.cells (jsonC k [] vn vk).toArray 40 (0, 0)) ∧
    ∀ v, JO wa v (jb + 1) wa.heap.size vn vk → JO ((wa.setCell ⟨b, 1, none⟩ (.int .i64 ((q : Int) + 1))).setRow rv (jsonC k [] vn vk).toArray) v w.heap.size ((wa.setCell ⟨b, 1, none⟩ (.int .i64 ((q : Int) + 1))).setRow rv (jsonC k [] vn vk).toArray).heap.size vn vk := by
  have h1 : (wa.setCell ⟨b, 1, none⟩ (.int .i64 ((q : Int) + 1))).heap[jb]? = some (.cells (jsonC k [] vn vk).toArray 40 (0, 0)) := by
    rw [heap_setCell_other wa ⟨b, 1, none⟩ jb _ (by show jb ≠ b; omega)]; exact hb
  have h2 : (wa.setCell ⟨b, 1, none⟩ (.int .i64 ((q : Int) + 1))).heap[rv]? = some (.cells zeroC.toArray 40 (0, 0)) := by
    rw [heap_setCell_other wa ⟨b, 1, none⟩ rv _ (by show rv ≠ b; omega)]; exact hz
  have h3 := hs.atn (q + 1) ((q : Int) + 1) (by omega)
  have h4 : GX [b] w (wa.setCell ⟨b, 1, none⟩ (.int .i64 ((q : Int) + 1))) := hg.set (by simp) _ _
  refine ⟨h1, h2, h4.sub ((GX.refl [rv] _).setRow (by simp) _) (fun i hi => by simp at hi; right; omega), ?_, setRow_at h2 _, fun v hj => ?_⟩
  · unfold ScB
    rw [setRow_other _ _ _ _ (by omega)]; exact h3
  · have hsz : ((wa.setCell ⟨b, 1, none⟩ (.int .i64 ((q : Int) + 1))).setRow rv (jsonC k [] vn vk).toArray).heap.size = wa.heap.size := by simp [World.setRow]
    rw [hsz]
    refine (JO.frame v _ _ vn vk (fun i e1 e2 e3 => ?_) hj).widen (by omega) (Nat.le_refl _)
    rw [setRow_other _ _ _ _ (by omega), heap_setCell_other wa ⟨b, 1, none⟩ i _ (by show i ≠ b; omega)]
end Go.Proofs.YtlhhiiemojhjdaaDoor
set_option linter.unusedVariables false
set_option linter.unusedSimpArgs false
namespace Go.Proofs.YtlhhiiemojhjdaaDoor
open Go Go.RowKit
def LiS (d b : Nat) (s : Txt) (a : Int) (R : PR (List JsonD)) (w0 : World) (rv jb g : Nat) (en : Bool) (w : World) : Prop :=
  GX [b] w0 w ∧ w.heap[rv]? = some (.cells zeroC.toArray 40 (0, 0)) ∧
  ((∃ q acc, LstB w jb 6 [] acc ∧ ScB w b s q 0 a ∧ q ≤ s.length ∧ acc.length ≤ q ∧
      ((en = true ∧ q < s.length ∧ R = .ok acc (s.drop (q + 1))) ∨ (en = false ∧ ∃ n, n ≤ g ∧ s.length - q < n ∧ itemsR (valR d) 93 n (s.drop q) acc = R))) ∨
   (∃ q c a' m k vn vk, w.heap[jb]? = some (.cells (jsonC 6 [] vn vk).toArray 40 (0, 0)) ∧ SlF vn ∧ SlF vk ∧ ScB w b s q c a' ∧ q ≤ s.length + d ∧ R = .bad m k ∧ m ≠ 0 ∧ c = (m : Int) ∧ a' = ((s.length - k : Nat) : Int)))
theorem LiS.look {d b : Nat} {s : Txt} {a : Int} {R : PR (List JsonD)} {w : World} {rv jb g : Nat} {x : Bool} {wa : World} (h : LiS d b s a R w rv jb g x wa) (hrb : b < rv) (hw0 : w.heap.size ≤ rv) (hjb : jb = rv + 1) (hbl : b < w.heap.size) :
    (∃ q acc n vn vk cells, LstV wa jb 6 [] acc vn vk cells ∧ ScB wa b s q 0 a ∧ q ≤ s.length ∧ acc.length ≤ q ∧ x = false ∧ n + 1 ≤ g ∧ s.length - q < n + 1 ∧ itemsR (valR d) 93 (n + 1) (s.drop q) acc = R) ∨
    ∃ q c a' vn vk, wa.heap[jb]? = some (.cells (jsonC 6 [] vn vk).toArray 40 (0, 0)) ∧ SlF vn ∧ SlF vk ∧ ScB wa b s q c a' ∧ q ≤ s.length + d ∧ ((c = 0 ∧ x = true) ∨ (c == 0) = false) ∧
      VlP (d + 1) b s a (R.bind fun ks t => .ok (.mk 6 [] [] ks) t) w (.returned (.agg (jsonC 6 [] vn vk).toArray)) ((wa.setCell ⟨b, 1, none⟩ (.int .i64 ((q : Int) + 1))).setRow rv (jsonC 6 [] vn vk).toArray) := by
  obtain ⟨hg, hz, h⟩ := h
  rcases h with ⟨q, acc, hL, hs, hq, ha, h⟩ | ⟨q, c, a', m, k, vn, vk, hb, h1, h2, hs, hq, hR, hm, hc, ha⟩
  · rcases h with ⟨hx, hql, hR⟩ | ⟨hx, n, hn, hqn, hR⟩
    · right
      obtain ⟨vn, vk, hb, hj⟩ := hL.toJO (Nat.le_refl _)
      obtain ⟨_, _, e3, e4, _, e6⟩ := val_exit hrb hw0 (by omega) hbl hg hz hs hb
      refine ⟨q, 0, a, vn, vk, hb, (jo_form hj).1, (jo_form hj).2, hs, by omega, .inl ⟨rfl, hx⟩, e3, ?_⟩
      rw [hR]
      exact ⟨⟨vn, vk, rfl, e6 _ hj⟩, q + 1, by omega, rfl, e4⟩
    · left
      obtain ⟨vn, vk, cells, hL⟩ := hL
      obtain ⟨n', rfl⟩ : ∃ n', n = n' + 1 := ⟨n - 1, by omega⟩
      exact ⟨q, acc, n', vn, vk, cells, hL, hs, hq, ha, hx, hn, hqn, hR⟩
  · right
    obtain ⟨_, _, e3, e4, _, _⟩ := val_exit hrb hw0 (by omega) hbl hg hz hs hb
    refine ⟨q, c, a', vn, vk, hb, h1, h2, hs, hq, .inr (by subst hc; simpa using hm), e3, ?_⟩
    subst hR hc ha
    exact ⟨⟨6, [], vn, vk, rfl, h1, h2⟩, q + 1, by omega, hm, e4⟩
end Go.Proofs.YtlhhiiemojhjdaaDoor
set_option linter.unusedVariables false
set_option linter.unusedSimpArgs false
namespace Go.Proofs.YtlhhiiemojhjdaaDoor
open Go Go.RowKit
structure LstR (w : World) (jb : Nat) (k : Int) (vn vk : Value) (m n : Nat) (nc kc : List Value) : Prop where
  blk : w.heap[jb]? = some (.cells (jsonC k [] vn vk).toArray 40 (0, 0))
  nrow : w.ownsRow (jb + 1) 9 1 vn m nc
  krow : w.ownsRow (jb + 1) 40 4 vk n kc
theorem LstR.ne {w : World} {jb : Nat} {k : Int} {vn vk : Value} {m n : Nat} {nc kc : List Value} (h : LstR w jb k vn vk m n nc kc) : ∀ i, vn.ownBlock = some i → vk.ownBlock ≠ some i := fun b' e1 e2 => by
  rcases h.nrow.2 with ⟨e, _⟩ | ⟨g1, c1, cur1, e, _, e3, _⟩
  · rw [e] at e1; cases e1
  · rcases h.krow.2 with ⟨f, _⟩ | ⟨g2, c2, cur2, f, _, f3, _⟩
    · rw [f] at e2; cases e2
    · rw [e] at e1; rw [f] at e2
      simp [Value.ownBlock] at e1 e2
      subst e1 e2
      rw [e3] at f3
      injection f3 with f3
      injection f3 with _ f3 _
      exact absurd f3 (by decide)
theorem LstR.nb {w : World} {jb : Nat} {k : Int} {vn vk : Value} {m n : Nat} {nc kc : List Value} (h : LstR w jb k vn vk m n nc kc) : ∀ i, vn.ownBlock = some i → jb + 1 ≤ i ∧ i < w.heap.size := fun i hi => ownsRow_base h.nrow hi
theorem LstR.kb {w : World} {jb : Nat} {k : Int} {vn vk : Value} {m n : Nat} {nc kc : List Value} (h : LstR w jb k vn vk m n nc kc) : ∀ i, vk.ownBlock = some i → jb + 1 ≤ i ∧ i < w.heap.size := fun i hi => ownsRow_base h.krow hi
theorem LstR.gx {w w' : World} {jb b : Nat} {k : Int} {vn vk : Value} {m n : Nat} {nc kc : List Value} (h : LstR w jb k vn vk m n nc kc) (hg : GX [b] w w') (hb : b < jb) : LstR w' jb k vn vk m n nc kc :=
  ⟨hg.heap (by simp; omega) h.blk, ownsRow_frame h.nrow (fun i e l => hg.block i l (by have := h.nb i e; simp; omega)), ownsRow_frame h.krow (fun i e l => hg.block i l (by have := h.kb i e; simp; omega))⟩
theorem LstR.mid {w1 w3 w4 : World} {jb : Nat} {k : Int} {vn vk v v' : Value} {m n n' size : Nat} {nc kc xs : List Value} {e : TypeId} (h : LstR w1 jb k vn vk m n nc kc) (hv : v = vn ∨ v = vk) (h3 : Q w1 w3) (hgrow : w3.grownBy w4 v.ownBlock) (hrow : w4.ownsRow (jb + 1) e size v' (n' + 1) xs) :
    (∃ g cap, v' = .slice (some ⟨g, 0, none⟩) (n' + 1) cap) ∧ w4.heap[jb]? = some (.cells (jsonC k [] vn vk).toArray 40 (0, 0)) ∧ w4.cell? ⟨jb, 2, none⟩ = some vn ∧ w4.cell? ⟨jb, 3, none⟩ = some vk ∧ w4.frozen? ⟨jb, 2, none⟩ = false ∧ w4.frozen? ⟨jb, 3, none⟩ = false := by
  have hlt := lt_of_heap h.blk
  have hs3 := h3.size
  have hne : v.ownBlock ≠ some jb := fun e => by
    rcases hv with rfl | rfl
    · have := (h.nb jb e).1; omega
    · have := (h.kb jb e).1; omega
  have hjb4 : w4.heap[jb]? = some (.cells (jsonC k [] vn vk).toArray 40 (0, 0)) := by
    rw [hgrow.block jb (by omega) (fun e => hne e.symm)]; exact h3.block h.blk
  refine ⟨?_, hjb4, by rw [cell_of_row _ _ _ _ _ _ hjb4]; rfl, by rw [cell_of_row _ _ _ _ _ _ hjb4]; rfl, frozen_of_row w4 jb 2 _ _ hjb4, frozen_of_row w4 jb 3 _ _ hjb4⟩
  rcases hrow.2 with ⟨_, h0⟩ | ⟨g, cap, cur, h, _⟩
  · omega
  · exact ⟨g, cap, h⟩
structure App (w1 w5 : World) (jb : Nat) (v v' : Value) : Prop where
  hf : ∀ i, i < w1.heap.size → i ≠ jb → v.ownBlock ≠ some i → w5.heap[i]? = w1.heap[i]?
  sz : w1.heap.size ≤ w5.heap.size
  ho : v'.ownBlock = v.ownBlock ∨ ∃ i, w1.heap.size ≤ i ∧ v'.ownBlock = some i
  gx : ∀ (b : Nat) (w0 : World), GX [b] w0 w1 → w0.heap.size ≤ jb → GX [b] w0 w5
theorem app_of {w1 w3 w4 : World} {jb x : Nat} {v v' : Value} (hb : ∀ i, v.ownBlock = some i → jb + 1 ≤ i) (h3 : Q w1 w3) (hgrow : w3.grownBy w4 v.ownBlock) (hob : v'.ownBlock = v.ownBlock ∨ v'.ownBlock = some w3.heap.size) : App w1 (w4.setCell ⟨jb, x, none⟩ v') jb v v' := by
  have hs3 := h3.size
  have hs4 := hgrow.size
  refine ⟨fun i hi hj hn => ?_, by simp; omega, ?_, fun b w0 hg h0 => ?_⟩
  · rw [heap_setCell_other w4 ⟨jb, x, none⟩ i v' hj, hgrow.block i (by omega) (fun e => hn e.symm)]; exact Below.block h3 i hi
  · rcases hob with h | h
    · exact .inl h
    · exact .inr ⟨_, hs3, h⟩
  · refine ((hg.trans (GX.q h3)).sub (GX.gbo hgrow) (fun i hi => ?_)).sub ((GX.refl [jb] w4).set (by simp) x v') (fun i hi => ?_)
    · have := hb i (by simpa using hi); right; omega
    · simp at hi; right; omega
theorem row_set {w : World} {jb x base : Nat} {e : TypeId} {size n : Nat} {v u : Value} {xs : List Value} (h : w.ownsRow (jb + 1) e size v n xs) : (w.setCell ⟨jb, x, none⟩ u).ownsRow (jb + 1) e size v n xs :=
  ownsRow_frame h (fun i h6 h7 => heap_setCell_other w ⟨jb, x, none⟩ i u (by
    intro e
    have e : i = jb := e
    subst e
    have := (ownsRow_base h h6).1; omega))
theorem LstR.name {w1 w3 w4 : World} {jb : Nat} {k : Int} {vn vk v' : Value} {m n : Nat} {nc kc nc' : List Value} (h : LstR w1 jb k vn vk m n nc kc) (h3 : Q w1 w3) (hgrow : w3.grownBy w4 vn.ownBlock) (hrow : w4.ownsRow (jb + 1) 9 1 v' (m + 1) nc') (hob : v'.ownBlock = vn.ownBlock ∨ v'.ownBlock = some w3.heap.size) :
    LstR (w4.setCell ⟨jb, 2, none⟩ v') jb k v' vk (m + 1) n nc' kc ∧ App w1 (w4.setCell ⟨jb, 2, none⟩ v') jb vn v' := by
  have ha : App w1 (w4.setCell ⟨jb, 2, none⟩ v') jb vn v' := app_of (fun i e => (h.nb i e).1) h3 hgrow hob
  refine ⟨⟨?_, row_set (base := 0) hrow, ownsRow_frame h.krow (fun i e l => ha.hf i l (by have := h.kb i e; omega) (fun e' => h.ne i e' e))⟩, ha⟩
  rw [heap_setCell_any w4 jb 2 _ _ _ _ (h.mid (.inl rfl) h3 hgrow hrow).2.1]; rfl
theorem LstR.kid {w1 w3 w4 : World} {jb : Nat} {k : Int} {vn vk v' : Value} {m n : Nat} {nc kc kc' : List Value} (h : LstR w1 jb k vn vk m n nc kc) (h3 : Q w1 w3) (hgrow : w3.grownBy w4 vk.ownBlock) (hrow : w4.ownsRow (jb + 1) 40 4 v' (n + 1) kc') (hob : v'.ownBlock = vk.ownBlock ∨ v'.ownBlock = some w3.heap.size) :
    LstR (w4.setCell ⟨jb, 3, none⟩ v') jb k vn v' m (n + 1) nc kc' ∧ App w1 (w4.setCell ⟨jb, 3, none⟩ v') jb vk v' := by
  have ha : App w1 (w4.setCell ⟨jb, 3, none⟩ v') jb vk v' := app_of (fun i e => (h.kb i e).1) h3 hgrow hob
  refine ⟨⟨?_, ownsRow_frame h.nrow (fun i e l => ha.hf i l (by have := h.nb i e; omega) (fun e' => h.ne i e e')), row_set (base := 0) hrow⟩, ha⟩
  rw [heap_setCell_any w4 jb 3 _ _ _ _ (h.mid (.inr rfl) h3 hgrow hrow).2.1]; rfl
end Go.Proofs.YtlhhiiemojhjdaaDoor
set_option linter.unusedVariables false
set_option linter.unusedSimpArgs false
namespace Go.Proofs.YtlhhiiemojhjdaaDoor
open Go Go.RowKit
theorem App.low {w1 w5 : World} {jb : Nat} {v v' : Value} (h : App w1 w5 jb v v') (hb : ∀ i, v.ownBlock = some i → jb + 1 ≤ i) {i : Nat} (hi : i < jb) (hs : i < w1.heap.size) : w5.heap[i]? = w1.heap[i]? :=
  h.hf i hs (by omega) (fun e => by have := hb i e; omega)
def ObS (d b : Nat) (s : Txt) (a : Int) (R : PR (List (Txt × JsonD))) (w0 : World) (rv jb g : Nat) (en : Bool) (w : World) : Prop :=
  GX [b] w0 w ∧ w.heap[rv]? = some (.cells zeroC.toArray 40 (0, 0)) ∧
  ((∃ q acc, LstB w jb 7 (acc.map (·.1)) (acc.map (·.2)) ∧ ScB w b s q 0 a ∧ q ≤ s.length ∧ acc.length ≤ q ∧
      ((en = true ∧ q < s.length ∧ R = .ok acc (s.drop (q + 1))) ∨ (en = false ∧ ∃ n, n ≤ g ∧ s.length - q < n ∧ itemsR (pairR (valR d)) 125 n (s.drop q) acc = R))) ∨
   (∃ q c a' m k vn vk, w.heap[jb]? = some (.cells (jsonC 7 [] vn vk).toArray 40 (0, 0)) ∧ SlF vn ∧ SlF vk ∧ ScB w b s q c a' ∧ q ≤ s.length + d ∧ R = .bad m k ∧ m ≠ 0 ∧ c = (m : Int) ∧ a' = ((s.length - k : Nat) : Int)))
theorem ObS.look {d b : Nat} {s : Txt} {a : Int} {R : PR (List (Txt × JsonD))} {w : World} {rv jb g : Nat} {x : Bool} {wa : World} (h : ObS d b s a R w rv jb g x wa) (hrb : b < rv) (hw0 : w.heap.size ≤ rv) (hjb : jb = rv + 1) (hbl : b < w.heap.size) :
    (∃ q acc n vn vk cells, LstV wa jb 7 (acc.map (·.1)) (acc.map (·.2)) vn vk cells ∧ ScB wa b s q 0 a ∧ q ≤ s.length ∧ acc.length ≤ q ∧ x = false ∧ n + 1 ≤ g ∧ s.length - q < n + 1 ∧ itemsR (pairR (valR d)) 125 (n + 1) (s.drop q) acc = R) ∨
    ∃ q c a' vn vk, wa.heap[jb]? = some (.cells (jsonC 7 [] vn vk).toArray 40 (0, 0)) ∧ SlF vn ∧ SlF vk ∧ ScB wa b s q c a' ∧ q ≤ s.length + d ∧ ((c = 0 ∧ x = true) ∨ (c == 0) = false) ∧
      VlP (d + 1) b s a (R.bind fun ks t => .ok (.mk 7 [] (ks.map (·.1)) (ks.map (·.2))) t) w (.returned (.agg (jsonC 7 [] vn vk).toArray)) ((wa.setCell ⟨b, 1, none⟩ (.int .i64 ((q : Int) + 1))).setRow rv (jsonC 7 [] vn vk).toArray) := by
  obtain ⟨hg, hz, h⟩ := h
  rcases h with ⟨q, acc, hL, hs, hq, ha, h⟩ | ⟨q, c, a', m, k, vn, vk, hb, h1, h2, hs, hq, hR, hm, hc, ha⟩
  · rcases h with ⟨hx, hql, hR⟩ | ⟨hx, n, hn, hqn, hR⟩
    · right
      obtain ⟨vn, vk, hb, hj⟩ := hL.toJO (Nat.le_refl _)
      obtain ⟨_, _, e3, e4, _, e6⟩ := val_exit hrb hw0 (by omega) hbl hg hz hs hb
      refine ⟨q, 0, a, vn, vk, hb, (jo_form hj).1, (jo_form hj).2, hs, by omega, .inl ⟨rfl, hx⟩, e3, ?_⟩
      rw [hR]
      exact ⟨⟨vn, vk, rfl, e6 _ hj⟩, q + 1, by omega, rfl, e4⟩
    · left
      obtain ⟨vn, vk, cells, hL⟩ := hL
      obtain ⟨n', rfl⟩ : ∃ n', n = n' + 1 := ⟨n - 1, by omega⟩
      exact ⟨q, acc, n', vn, vk, cells, hL, hs, hq, ha, hx, hn, hqn, hR⟩
  · right
    obtain ⟨_, _, e3, e4, _, _⟩ := val_exit hrb hw0 (by omega) hbl hg hz hs hb
    refine ⟨q, c, a', vn, vk, hb, h1, h2, hs, hq, .inr (by subst hc; simpa using hm), e3, ?_⟩
    subst hR hc ha
    exact ⟨⟨7, [], vn, vk, rfl, h1, h2⟩, q + 1, by omega, hm, e4⟩
theorem ObS.out {d b : Nat} {s : Txt} {a : Int} {R : PR (List (Txt × JsonD))} {w : World} {rv jb g : Nat} {wa : World} (h : ObS d b s a R w rv jb g true wa) (hrb : b < rv) (hw0 : w.heap.size ≤ rv) (hjb : jb = rv + 1) (hbl : b < w.heap.size) :
    ∃ q c a' vn vk, wa.heap[jb]? = some (.cells (jsonC 7 [] vn vk).toArray 40 (0, 0)) ∧ SlF vn ∧ SlF vk ∧ ScB wa b s q c a' ∧ q ≤ s.length + d ∧
      VlP (d + 1) b s a (R.bind fun ks t => .ok (.mk 7 [] (ks.map (·.1)) (ks.map (·.2))) t) w (.returned (.agg (jsonC 7 [] vn vk).toArray)) ((wa.setCell ⟨b, 1, none⟩ (.int .i64 ((q : Int) + 1))).setRow rv (jsonC 7 [] vn vk).toArray) := by
  rcases h.look hrb hw0 hjb hbl with ⟨_, _, _, _, _, _, _, _, _, _, h, _⟩ | ⟨q, c, a', vn, vk, h1, h2, h3, h4, h5, _, h7⟩
  · cases h
  · exact ⟨q, c, a', vn, vk, h1, h2, h3, h4, h5, h7⟩
end Go.Proofs.YtlhhiiemojhjdaaDoor
set_option linter.unusedVariables false
set_option linter.unusedSimpArgs false
namespace Go.Proofs.YtlhhiiemojhjdaaDoor
open Go Go.RowKit
end Go.Proofs.YtlhhiiemojhjdaaDoor
set_option linter.unusedVariables false
set_option linter.unusedSimpArgs false
namespace Go.Proofs.YtlhhiiemojhjdaaDoor
open Go Go.RowKit
end Go.Proofs.YtlhhiiemojhjdaaDoor
set_option linter.unusedVariables false
set_option linter.unusedSimpArgs false
namespace Go.Proofs.YtlhhiiemojhjdaaDoor
open Go Go.RowKit
set_option maxRecDepth 100000 in
theorem rvalid_any (s : Txt) (w : World) (hl : s.length ≤ 9223372036854775807) :
    Calls Tryd.prog 112 #[.string ⟨s.toArray⟩] w fun e w' => e = .returned (.bool (Lib.validD s)) ∧ Q w w' := by
  obtain ⟨R, hR⟩ : ∃ R, Lib.validD s = R := ⟨_, rfl⟩
  rw [hR]
  have HR := Lib.hid hR
  clear hR
  go_enter Tryd.func112, Tryd.ntmps112
  go_wp2_with fail
  go_loopg [3] (s.length + 1) (fun gk i wx => ∃ q : Nat, gk = s.length - q + 1 ∧ q ≤ s.length ∧ i = .int .i64 (q : Int) ∧ Hid (Lib.validD (s.drop q) = R ∧ Q w wx))
  case atStart => exact ⟨0, by omega, by omega, rfl, Lib.hid ⟨by rw [List.drop_zero]; exact HR.out, Q.refl w⟩⟩
  case round =>
    obtain ⟨q, rfl, hq, rfl, HI⟩ := hrel
    rename World => wa
    by_cases hlt : q < s.length
    · have hd : decide (q < s.length) = true := by simpa using hlt
      obtain ⟨N, hN⟩ : ∃ N, utfN (s.drop q) = N := ⟨_, rfl⟩
      have hU := rutf_any s q wa hl (by omega)
      rw [hN] at hU
      have HU := Lib.hid hU
      have hne : s.drop q ≠ [] := by intro e; have := congrArg List.length e; simp at this; omega
      have hb : N ≠ 0 → q + N ≤ s.length := fun h => by rw [← hN] at h ⊢; exact utf_bound h
      have HV : Hid ((if N = 0 then false else Lib.validD (s.drop (q + N))) = R) := Lib.hid (by
        rw [← HI.out.1, valid_step hne, hN, List.drop_drop])
      have HQ := Lib.hid HI.out.2
      clear hU hN hne HI
      go_wp2_with fail
      refine HU.out.mono ?_
      rintro e wb ⟨rfl, hq2⟩
      have HQ2 := Lib.hid (HQ.out.trans hq2)
      clear hq2 HU HQ
      by_cases h0 : N = 0
      · have g0 : ((N : Int) == 0) = true := by simp; omega
        have HX : Hid (R = false) := Lib.hid (by rw [← HV.out, if_pos h0])
        clear HV hb h0
        go_wp2_with fail
        go_ret
        exact ⟨by rw [HX.out]; rfl, HQ2.out⟩
      · have g0 : ((N : Int) == 0) = false := by simp; omega
        have hqN := hb h0
        have HN : Hid (Lib.validD (s.drop (q + N)) = R ∧ Q w wb) := Lib.hid ⟨by rw [← HV.out, if_neg h0], HQ2.out⟩
        clear HV hb HQ2
        go_wp2_with fail
        go_roundg (s.length - (q + N) + 1)
        case measure => omega
        case rel => exact ⟨q + N, rfl, hqN, by simp, HN⟩
    · have hd : decide (q < s.length) = false := by simpa using hlt
      have HX : Hid (R = true ∧ Q w wa) := Lib.hid (by
        have h := HI.out
        rw [List.drop_of_length_le (by omega)] at h
        exact ⟨h.1.symm.trans (by rfl), h.2⟩)
      clear HI
      go_wp2_with fail
      go_ret
      exact ⟨by rw [HX.out.1]; rfl, HX.out.2⟩
end Go.Proofs.YtlhhiiemojhjdaaDoor
