/- the document's Open, walked (unfinished). -/
import Derived.Test.YteadblkkbbhpjaaSnJ
set_option linter.unusedVariables false
namespace Go.Proofs.Yteadblkkbbhpjaa
open Go Go.RowKit
def OpPost (nm s : List UInt8) (w : World) (e : Ending) (w' : World) : Prop := ∃ t x a, e = .returned (.tuple #[.string ⟨t.toArray⟩, .int .i64 x, .int .i64 a]) ∧ OpSays nm s t x a ∧ Q w w'
set_option maxRecDepth 100000 in
set_option maxHeartbeats 2000000 in
theorem OpenR_a (nm s : List UInt8) (w : World) (hs : s.length ≤ 140737488355328) (hn : nm.length ≤ 140737488355328) (h : 220 < nm.length ∨ s.length < 36) :
    Calls Try.prog 19 #[.string ⟨nm.toArray⟩, .string ⟨s.toArray⟩] w (OpPost nm s w) := by
  by_cases h1 : 220 < nm.length
  · have g1 : decide (220 < (nm.length : Int)) = true := by simp; omega
    go_enter Try.func19, Try.ntmps19
    go_wp2_with fail
    go_ret3
    exact ⟨[], 1, 0, rfl, .inl ⟨h1, rfl, rfl, rfl⟩, Q.refl _⟩
  · have g1 : decide (220 < (nm.length : Int)) = false := by simp; omega
    have g2 : decide ((s.length : Int) < 36) = true := by simp; omega
    go_enter Try.func19, Try.ntmps19
    go_wp2_with fail
    go_ret3
    exact ⟨[], 14, 0, rfl, .inr (.inl ⟨by omega, fun h => by have := h.1; omega, rfl, rfl, rfl⟩), Q.refl _⟩
end Go.Proofs.Yteadblkkbbhpjaa
