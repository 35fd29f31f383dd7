/- The chapter's examples (digest). -/
import Derived.Test.YteadblkkbbhpjaaMac
import Derived.Test.YteadblkkbbhpjaaU64
set_option linter.unusedVariables false
namespace Go.Proofs.Yteadblkkbbhpjaa
open Go Go.RowKit
theorem sha_abc2 : sha [97, 98, 99] = [186, 120, 22, 191, 143, 1, 207, 234, 65, 65, 64, 222, 93, 174, 34, 35, 176, 3, 97, 163, 150, 23, 122, 156, 180, 16, 255, 97, 242, 0, 21, 173] := by decide +kernel
theorem md_abc2 : md [97, 98, 99] = [144, 1, 80, 152, 60, 210, 79, 176, 214, 150, 63, 125, 40, 225, 127, 114] := by decide +kernel
theorem mac_ex : mac [74, 101, 102, 101] [119, 104, 97, 116, 32, 100, 111, 32, 121, 97, 32, 119, 97, 110, 116, 32, 102, 111, 114, 32, 110, 111, 116, 104, 105, 110, 103, 63] = [91, 220, 193, 70, 191, 96, 117, 78, 106, 4, 36, 38, 8, 149, 117, 199, 90, 0, 63, 8, 157, 39, 57, 131, 157, 236, 88, 185, 100, 236, 56, 67] := by decide +kernel
theorem hex_s : hexL [186, 120, 22, 191, 143, 1, 207, 234, 65, 65, 64, 222, 93, 174, 34, 35, 176, 3, 97, 163, 150, 23, 122, 156, 180, 16, 255, 97, 242, 0, 21, 173] = [98, 97, 55, 56, 49, 54, 98, 102, 56, 102, 48, 49, 99, 102, 101, 97, 52, 49, 52, 49, 52, 48, 100, 101, 53, 100, 97, 101, 50, 50, 50, 51, 98, 48, 48, 51, 54, 49, 97, 51, 57, 54, 49, 55, 55, 97, 57, 99, 98, 52, 49, 48, 102, 102, 54, 49, 102, 50, 48, 48, 49, 53, 97, 100] := by decide +kernel
theorem hex_m : hexL [144, 1, 80, 152, 60, 210, 79, 176, 214, 150, 63, 125, 40, 225, 127, 114] = [57, 48, 48, 49, 53, 48, 57, 56, 51, 99, 100, 50, 52, 102, 98, 48, 100, 54, 57, 54, 51, 102, 55, 100, 50, 56, 101, 49, 55, 102, 55, 50] := by decide +kernel
theorem hex_c : hexL [91, 220, 193, 70, 191, 96, 117, 78, 106, 4, 36, 38, 8, 149, 117, 199, 90, 0, 63, 8, 157, 39, 57, 131, 157, 236, 88, 185, 100, 236, 56, 67] = [53, 98, 100, 99, 99, 49, 52, 54, 98, 102, 54, 48, 55, 53, 52, 101, 54, 97, 48, 52, 50, 52, 50, 54, 48, 56, 57, 53, 55, 53, 99, 55, 53, 97, 48, 48, 51, 102, 48, 56, 57, 100, 50, 55, 51, 57, 56, 51, 57, 100, 101, 99, 53, 56, 98, 57, 54, 52, 101, 99, 51, 56, 52, 51] := by decide +kernel
theorem unhex_0g : unhexL [48, 103] = ([], 50, 1) := by decide +kernel
theorem unb_yr : unbase64L [89, 82, 61, 61] = ([], 50, 1) := by decide +kernel
theorem b64_ab : base64L [97, 98] = [89, 87, 73, 61] := by decide +kernel
set_option maxRecDepth 100000 in
set_option maxHeartbeats 4000000 in
theorem examples_any (w : World) : Calls Try.prog 20 #[] w fun e w' => e = .returned (.bool true) ∧ Q w w' := by
  go_enter Try.func20, Try.ntmps20
  go_wp2_with fail
  with_reducible refine (Sum256_any [97, 98, 99] _ (by simp)).mono ?_
  rintro e w1 ⟨rfl, hq1⟩
  rw [sha_abc2]
  have HQ1 := Lib.hid hq1
  clear hq1
  go_wp2_with fail
  with_reducible refine (Hex_any [186, 120, 22, 191, 143, 1, 207, 234, 65, 65, 64, 222, 93, 174, 34, 35, 176, 3, 97, 163, 150, 23, 122, 156, 180, 16, 255, 97, 242, 0, 21, 173] _ (by simp)).mono ?_
  rintro e w2 ⟨rfl, hq2⟩
  rw [hex_s]
  have HQ2 := Lib.hid (HQ1.out.trans hq2)
  clear hq2 HQ1
  go_wp2_with fail
  with_reducible refine (Sum5_any [97, 98, 99] _ (by simp)).mono ?_
  rintro e w3 ⟨rfl, hq3⟩
  rw [md_abc2]
  have HQ3 := Lib.hid (HQ2.out.trans hq3)
  clear hq3 HQ2
  go_wp2_with fail
  with_reducible refine (Hex_any [144, 1, 80, 152, 60, 210, 79, 176, 214, 150, 63, 125, 40, 225, 127, 114] _ (by simp)).mono ?_
  rintro e w4 ⟨rfl, hq4⟩
  rw [hex_m]
  have HQ4 := Lib.hid (HQ3.out.trans hq4)
  clear hq4 HQ3
  go_wp2_with fail
  with_reducible refine (MAC_any [74, 101, 102, 101] [119, 104, 97, 116, 32, 100, 111, 32, 121, 97, 32, 119, 97, 110, 116, 32, 102, 111, 114, 32, 110, 111, 116, 104, 105, 110, 103, 63] _ (by simp) (by simp)).mono ?_
  rintro e w5 ⟨rfl, hq5⟩
  rw [mac_ex]
  have HQ5 := Lib.hid (HQ4.out.trans hq5)
  clear hq5 HQ4
  go_wp2_with fail
  with_reducible refine (Hex_any [91, 220, 193, 70, 191, 96, 117, 78, 106, 4, 36, 38, 8, 149, 117, 199, 90, 0, 63, 8, 157, 39, 57, 131, 157, 236, 88, 185, 100, 236, 56, 67] _ (by simp)).mono ?_
  rintro e w6 ⟨rfl, hq6⟩
  rw [hex_c]
  have HQ6 := Lib.hid (HQ5.out.trans hq6)
  clear hq6 HQ5
  go_wp2_with fail
  with_reducible refine (Unhex_any [48, 103] _ (by simp)).mono ?_
  rintro e w7 ⟨rfl, hq7⟩
  rw [unhex_0g]
  have HQ7 := Lib.hid (HQ6.out.trans hq7)
  clear hq7 HQ6
  go_wp2_with fail
  with_reducible refine (Unbase64_any [89, 82, 61, 61] _ (by simp)).mono ?_
  rintro e w8 ⟨rfl, hq8⟩
  rw [unb_yr]
  have HQ8 := Lib.hid (HQ7.out.trans hq8)
  clear hq8 HQ7
  go_wp2_with fail
  with_reducible refine (Base64_any [97, 98] _ (by simp)).mono ?_
  rintro e w9 ⟨rfl, hq9⟩
  rw [b64_ab]
  have HQ9 := Lib.hid (HQ8.out.trans hq9)
  clear hq9 HQ8
  go_wp2_with fail
  go_ret
  exact ⟨rfl, HQ9.out⟩
end Go.Proofs.Yteadblkkbbhpjaa
