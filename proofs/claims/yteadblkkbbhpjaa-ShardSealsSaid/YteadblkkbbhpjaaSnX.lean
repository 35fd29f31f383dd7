/- ShardSeals, walked. -/
import Derived.Test.YteadblkkbbhpjaaSnW
set_option linter.unusedVariables false
namespace Go.Proofs.Yteadblkkbbhpjaa
open Go Go.RowKit
set_option maxRecDepth 100000 in
set_option maxHeartbeats 4000000 in
theorem ShardSeals_any (nm l : List UInt8) (k : Int) (w : World) (hn : nm.length ≤ 140737488355328) (hl : l.length ≤ 140737488355328) :
    Calls Try.prog 3 #[.string ⟨nm.toArray⟩, .string ⟨l.toArray⟩, .int .i64 k] w fun e w' => e = .returned (.bool true) ∧ Q w w' := by
  go_enter Try.func3, Try.ntmps3
  go_wp2_with fail
  refine (known_any _).mono ?_
  rintro e w1 ⟨rfl, hq1⟩
  go_wp2_with fail
  refine (Seal_any nm l _ hn hl).mono ?_
  rintro e w2 ⟨hs, hq2⟩
  have HQ := Lib.hid (hq1.trans hq2)
  clear hq1 hq2
  rcases hs with ⟨a1, a2, rfl⟩ | ⟨a1, v, rfl, hv⟩
  · go_wp2_with fail
    refine (SealR_any nm l _ hn hl).mono ?_
    rintro e w3 ⟨hs, hq3⟩
    rcases hs with ⟨_, _, rfl⟩ | ⟨h, _⟩
    · have HQ := Lib.hid (HQ.out.trans hq3)
      have he : ErrIs w3 .nilIface 0 0 := .inl ⟨rfl, rfl⟩
      clear hq3
      generalize sealL nm l = X at *
      go_wp2_with fail
      refine (is_any _ 0 0 _ he).mono ?_
      rintro e w4 ⟨rfl, hq4⟩
      have HQ := Lib.hid (HQ.out.trans hq4)
      clear hq4
      have hx : (X == X) = true := by simp
      go_wp2_with (first | (go_at_call 16; refine (Size_any _ _).mono ?_; rintro e w'' ⟨rfl, rfl⟩) | (go_at_call 17; refine (SizeR_any _ _).mono ?_; rintro e w'' ⟨rfl, rfl⟩))
      go_ret
      exact ⟨rfl, HQ.out⟩
    · exact absurd ⟨a1, a2⟩ h
  · go_wp2_with fail
    refine (SealR_any nm l _ hn hl).mono ?_
    rintro e w3 ⟨hs, hq3⟩
    rcases hs with ⟨h1, h2, _⟩ | ⟨_, rfl⟩
    · exact absurd ⟨h1, h2⟩ a1
    · have HQ := Lib.hid (HQ.out.trans hq3)
      have he : ErrIs w3 v 1 0 := by obtain ⟨b, h1, h2⟩ := hv; exact .inr ⟨by omega, b, h1, h2.q hq3⟩
      clear hq3 hv a1
      go_wp2_with fail
      refine (is_any _ 1 0 _ he).mono ?_
      rintro e w4 ⟨rfl, hq4⟩
      have HQ := Lib.hid (HQ.out.trans hq4)
      clear hq4
      go_wp2_with (first | (go_at_call 16; refine (Size_any _ _).mono ?_; rintro e w'' ⟨rfl, rfl⟩) | (go_at_call 17; refine (SizeR_any _ _).mono ?_; rintro e w'' ⟨rfl, rfl⟩))
      go_ret
      exact ⟨rfl, HQ.out⟩
end Go.Proofs.Yteadblkkbbhpjaa
