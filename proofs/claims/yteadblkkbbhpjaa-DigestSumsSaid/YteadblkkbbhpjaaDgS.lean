/- DigestSums: what the law answers. -/
import Derived.Test.YteadblkkbbhpjaaExm
import Derived.Test.YteadblkkbbhpjaaRfJ
import Derived.Test.YteadblkkbbhpjaaRfK
set_option linter.unusedVariables false
namespace Go.Proofs.Yteadblkkbbhpjaa
open Go Go.RowKit
set_option maxRecDepth 100000 in
set_option maxHeartbeats 4000000 in
theorem DigestSums_any (s key : List UInt8) (w : World) (hs : s.length ≤ 140737488355328) (hkey : key.length ≤ 140737488355328) :
    Calls Try.prog 9 #[.string ⟨s.toArray⟩, .string ⟨key.toArray⟩] w fun e w' => e = .returned (.bool true) ∧ Q w w' := by
  go_enter Try.func9, Try.ntmps9
  go_wp2_with fail
  with_reducible refine (examples_any _).mono ?_
  rintro e w1 ⟨rfl, hq1⟩
  have HQ1 := Lib.hid hq1
  clear hq1
  go_wp2_with fail
  with_reducible refine (Sum256_any s _ (by omega)).mono ?_
  rintro e w2 ⟨rfl, hq2⟩
  have HQ2 := Lib.hid (HQ1.out.trans hq2)
  clear hq2 HQ1
  go_wp2_with fail
  with_reducible refine (Sum256R_any s _ (by omega)).mono ?_
  rintro e w3 ⟨rfl, hq3⟩
  have HQ3 := Lib.hid (HQ2.out.trans hq3)
  clear hq3 HQ2
  go_wp2_with fail
  with_reducible refine (Sum5_any s _ (by omega)).mono ?_
  rintro e w4 ⟨rfl, hq4⟩
  have HQ4 := Lib.hid (HQ3.out.trans hq4)
  clear hq4 HQ3
  go_wp2_with fail
  with_reducible refine (Sum5R_any s _ (by omega)).mono ?_
  rintro e w5 ⟨rfl, hq5⟩
  have HQ5 := Lib.hid (HQ4.out.trans hq5)
  clear hq5 HQ4
  go_wp2_with fail
  with_reducible refine (MAC_any key s _ (by omega) (by omega)).mono ?_
  rintro e w6 ⟨rfl, hq6⟩
  have HQ6 := Lib.hid (HQ5.out.trans hq6)
  clear hq6 HQ5
  go_wp2_with fail
  with_reducible refine (MACR_any key s _ (by omega) (by omega)).mono ?_
  rintro e w7 ⟨rfl, hq7⟩
  have HQ7 := Lib.hid (HQ6.out.trans hq7)
  clear hq7 HQ6
  go_wp2_with fail
  go_ret
  exact ⟨rfl, HQ7.out⟩
end Go.Proofs.Yteadblkkbbhpjaa
