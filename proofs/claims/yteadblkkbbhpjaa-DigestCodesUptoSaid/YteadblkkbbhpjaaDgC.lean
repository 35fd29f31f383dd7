/- DigestCodes: what the law answers. -/
import Derived.Test.YteadblkkbbhpjaaExm
import Derived.Test.YteadblkkbbhpjaaRfH
set_option linter.unusedVariables false
namespace Go.Proofs.Yteadblkkbbhpjaa
open Go Go.RowKit
set_option maxRecDepth 100000 in
set_option maxHeartbeats 4000000 in
theorem DigestCodes_any (s : List UInt8) (w : World) (hs : s.length ≤ 1048576) :
    Calls Try.prog 10 #[.string ⟨s.toArray⟩] w fun e w' => e = .returned (.bool true) ∧ Q w w' := by
  obtain ⟨c, ec, ac, hc⟩ : ∃ c ec ac, unhexL s = (c, ec, ac) := ⟨_, _, _, rfl⟩
  obtain ⟨d, ed, ad, hd⟩ : ∃ d ed ad, unbase64L s = (d, ed, ad) := ⟨_, _, _, rfl⟩
  have HC := Lib.hid hc
  have HD := Lib.hid hd
  clear hc hd
  go_enter Try.func10, Try.ntmps10
  go_wp2_with fail
  with_reducible refine (examples_any _).mono ?_
  rintro e w1 ⟨rfl, hq1⟩
  have HQ1 := Lib.hid hq1
  clear hq1
  go_wp2_with fail
  with_reducible refine (Unhex_any s _ (by omega)).mono ?_
  rintro e w2 ⟨rfl, hq2⟩
  rw [HC.out]
  have HQ2 := Lib.hid (HQ1.out.trans hq2)
  clear hq2 HQ1
  go_wp2_with fail
  with_reducible refine (RUnhex_any s _ (by omega)).mono ?_
  rintro e w3 ⟨rfl, hq3⟩
  rw [HC.out]
  have HQ3 := Lib.hid (HQ2.out.trans hq3)
  clear hq3 HQ2
  go_wp2_with fail
  with_reducible refine (Unbase64_any s _ (by omega)).mono ?_
  rintro e w4 ⟨rfl, hq4⟩
  rw [HD.out]
  have HQ4 := Lib.hid (HQ3.out.trans hq4)
  clear hq4 HQ3
  go_wp2_with fail
  with_reducible refine (RUnbase64_any s _ (by omega)).mono ?_
  rintro e w5 ⟨rfl, hq5⟩
  rw [HD.out]
  have HQ5 := Lib.hid (HQ4.out.trans hq5)
  clear hq5 HQ4
  go_wp2_with fail
  with_reducible refine (Hex_any s _ (by omega)).mono ?_
  rintro e w6 ⟨rfl, hq6⟩
  have HQ6 := Lib.hid (HQ5.out.trans hq6)
  clear hq6 HQ5
  go_wp2_with fail
  with_reducible refine (RHex_any s _ (by omega)).mono ?_
  rintro e w7 ⟨rfl, hq7⟩
  have HQ7 := Lib.hid (HQ6.out.trans hq7)
  clear hq7 HQ6
  go_wp2_with fail
  with_reducible refine (Base64_any s _ (by omega)).mono ?_
  rintro e w8 ⟨rfl, hq8⟩
  have HQ8 := Lib.hid (HQ7.out.trans hq8)
  clear hq8 HQ7
  go_wp2_with fail
  with_reducible refine (RBase64_any s _ (by omega)).mono ?_
  rintro e w9 ⟨rfl, hq9⟩
  have HQ9 := Lib.hid (HQ8.out.trans hq9)
  clear hq9 HQ8
  go_wp2_with fail
  go_ret
  exact ⟨rfl, HQ9.out⟩
end Go.Proofs.Yteadblkkbbhpjaa
