/- DigestBack: what the law answers. -/
import Derived.Test.YteadblkkbbhpjaaExm
import Derived.Test.YteadblkkbbhpjaaPlD
import Derived.Test.YteadblkkbbhpjaaPlC
set_option linter.unusedVariables false
namespace Go.Proofs.Yteadblkkbbhpjaa
open Go Go.RowKit
set_option maxRecDepth 100000 in
set_option maxHeartbeats 4000000 in
theorem DigestBack_any (s : List UInt8) (w : World) (hs : s.length ≤ 140737488355328) :
    Calls Try.prog 7 #[.string ⟨s.toArray⟩] w fun e w' => e = .returned (.bool true) ∧ Q w w' := by
  have hx := unhex_hex s
  have hb := unb_b64 s
  have hxl := hexL_length s
  have hbl : (base64L s).length = 4 * ((s.length + 2) / 3) := b64L_length _ _
  obtain ⟨c, ec, ac, hc⟩ : ∃ c ec ac, unhexL s = (c, ec, ac) := ⟨_, _, _, rfl⟩
  obtain ⟨d, ed, ad, hd⟩ : ∃ d ed ad, unbase64L s = (d, ed, ad) := ⟨_, _, _, rfl⟩
  have kc : ec = 0 → hexL c = s ∧ c.length ≤ 140737488355328 := by
    rintro rfl
    have h1 := hex_unhex s c ac hc
    have h2 := hexL_length c
    rw [h1] at h2
    exact ⟨h1, by omega⟩
  have kd : ed = 0 → base64L d = s ∧ d.length ≤ 140737488355328 := by
    rintro rfl
    have h1 := b64_unb s d ad hd
    have h2 : (base64L d).length = 4 * ((d.length + 2) / 3) := b64L_length _ _
    rw [h1] at h2
    exact ⟨h1, by omega⟩
  have HX := Lib.hid hx
  have HB := Lib.hid hb
  have HC := Lib.hid hc
  have HD := Lib.hid hd
  have KC := Lib.hid kc
  have KD := Lib.hid kd
  clear hx hb hc hd kc kd
  go_enter Try.func7, Try.ntmps7
  go_wp2_with fail
  with_reducible refine (examples_any _).mono ?_
  rintro e w1 ⟨rfl, hq1⟩
  have HQ1 := Lib.hid hq1
  clear hq1
  go_wp2_with fail
  with_reducible refine (Hex_any s _ hs).mono ?_
  rintro e w2 ⟨rfl, hq2⟩
  have HQ2 := Lib.hid (HQ1.out.trans hq2)
  clear hq2 HQ1
  go_wp2_with fail
  with_reducible refine (Unhex_any (hexL s) _ (by rw [hxl]; omega)).mono ?_
  rintro e w3 ⟨rfl, hq3⟩
  rw [HX.out]
  have HQ3 := Lib.hid (HQ2.out.trans hq3)
  clear hq3 HQ2
  go_wp2_with fail
  with_reducible refine (Base64_any s _ hs).mono ?_
  rintro e w4 ⟨rfl, hq4⟩
  have HQ4 := Lib.hid (HQ3.out.trans hq4)
  clear hq4 HQ3
  go_wp2_with fail
  with_reducible refine (Unbase64_any (base64L s) _ (by rw [hbl]; omega)).mono ?_
  rintro e w5 ⟨rfl, hq5⟩
  rw [HB.out]
  have HQ5 := Lib.hid (HQ4.out.trans hq5)
  clear hq5 HQ4
  go_wp2_with fail
  with_reducible refine (Unhex_any s _ (by omega)).mono ?_
  rintro e w6 ⟨rfl, hq6⟩
  rw [HC.out]
  have HQ6 := Lib.hid (HQ5.out.trans hq6)
  clear hq6 HQ5
  go_wp2_with fail
  with_reducible refine (Unbase64_any s _ (by omega)).mono ?_
  rintro e w7 ⟨rfl, hq7⟩
  rw [HD.out]
  have HQ7 := Lib.hid (HQ6.out.trans hq7)
  clear hq7 HQ6
  by_cases hec : ec = 0
  · subst hec
    obtain ⟨k1, k2⟩ := KC.out rfl
    by_cases hed : ed = 0
    · subst hed
      obtain ⟨m1, m2⟩ := KD.out rfl
      go_wp2_with fail
      with_reducible refine (Hex_any c _ k2).mono ?_
      rintro e w8 ⟨rfl, hq8⟩
      rw [k1]
      have HQ8 := Lib.hid (HQ7.out.trans hq8)
      go_wp2_with fail
      with_reducible refine (Base64_any d _ m2).mono ?_
      rintro e w9 ⟨rfl, hq9⟩
      rw [m1]
      have HQ9 := Lib.hid (HQ8.out.trans hq9)
      go_wp2_with fail
      go_ret
      exact ⟨rfl, HQ9.out⟩
    · go_wp2_with fail
      with_reducible refine (Hex_any c _ k2).mono ?_
      rintro e w8 ⟨rfl, hq8⟩
      rw [k1]
      have HQ8 := Lib.hid (HQ7.out.trans hq8)
      go_wp2_with fail
      go_ret
      exact ⟨rfl, HQ8.out⟩
  · by_cases hed : ed = 0
    · subst hed
      obtain ⟨m1, m2⟩ := KD.out rfl
      go_wp2_with fail
      with_reducible refine (Base64_any d _ m2).mono ?_
      rintro e w9 ⟨rfl, hq9⟩
      rw [m1]
      have HQ9 := Lib.hid (HQ7.out.trans hq9)
      go_wp2_with fail
      go_ret
      exact ⟨rfl, HQ9.out⟩
    · go_wp2_with fail
      go_ret
      exact ⟨rfl, HQ7.out⟩
end Go.Proofs.Yteadblkkbbhpjaa
