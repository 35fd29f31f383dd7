/- shard.Seal: what it refuses. -/
import Derived.Test.YteadblkkbbhpjaaSnO
set_option linter.unusedVariables false
namespace Go.Proofs.Yteadblkkbbhpjaa
open Go Go.RowKit Go.Shelf
/-- An error value: a Fault of a code at a place. -/
def FltIs (w : World) (v : Value) (c a : Int) : Prop := ∃ b, v = .iface 67 (.pointer (some ⟨b, 0, none⟩)) ∧ FaultAt w b c a
set_option maxRecDepth 100000 in
set_option maxHeartbeats 4000000 in
theorem Seal_bad (nm l : List UInt8) (w : World) (hn : nm.length ≤ 140737488355328) (hl : l.length ≤ 140737488355328) (h : 220 < nm.length ∨ 10000 < l.length) :
    Calls Try.prog 13 #[.string ⟨nm.toArray⟩, .string ⟨l.toArray⟩] w fun e w' => (∃ v, e = .returned (.tuple #[.string ⟨#[]⟩, v]) ∧ FltIs w' v 1 0) ∧ Q w w' := by
  by_cases h1 : 220 < nm.length
  · have g1 : decide (220 < (nm.length : Int)) = true := by simp; omega
    refine (callsIn_wide (n := 3)).1 ?_
    refine callsIn_of_wp_marks Try.func13 rfl trivial ?_ rfl
    simp only [Try.ntmps13, List.size_toArray, List.length_cons, List.length_nil, Nat.reduceAdd, Nat.reduceSub, Array.replicate_succ, Array.replicate_zero, List.push_toArray, List.append_toArray, List.nil_append, List.cons_append]
    refine wpIn_wide.2 ?_
    go_wp2_with fail
    refine (shfault_any 1 0 _).mono ?_
    rintro e w1 ⟨⟨b, rfl, hb⟩, hq⟩
    have hq1 : Q w w1 := (((Q.refl w).alloc _).alloc _).trans hq
    clear hq
    go_wp2_with fail
    exact ⟨_, results_tmp2 rfl _ _ _, ⟨_, rfl, b, rfl, hb⟩, hq1⟩
  · have g1 : decide (220 < (nm.length : Int)) = false := by simp; omega
    have g2 : decide (10000 < (l.length : Int)) = true := by simp; omega
    refine (callsIn_wide (n := 3)).1 ?_
    refine callsIn_of_wp_marks Try.func13 rfl trivial ?_ rfl
    simp only [Try.ntmps13, List.size_toArray, List.length_cons, List.length_nil, Nat.reduceAdd, Nat.reduceSub, Array.replicate_succ, Array.replicate_zero, List.push_toArray, List.append_toArray, List.nil_append, List.cons_append]
    refine wpIn_wide.2 ?_
    go_wp2_with fail
    refine (shfault_any 1 0 _).mono ?_
    rintro e w1 ⟨⟨b, rfl, hb⟩, hq⟩
    have hq1 : Q w w1 := (((Q.refl w).alloc _).alloc _).trans hq
    clear hq
    go_wp2_with fail
    exact ⟨_, results_tmp2 rfl _ _ _, ⟨_, rfl, b, rfl, hb⟩, hq1⟩
theorem Seal_any (nm l : List UInt8) (w : World) (hn : nm.length ≤ 140737488355328) (hl : l.length ≤ 140737488355328) :
    Calls Try.prog 13 #[.string ⟨nm.toArray⟩, .string ⟨l.toArray⟩] w fun e w' => ((nm.length ≤ 220 ∧ l.length ≤ 10000 ∧ e = .returned (.tuple #[.string ⟨(sealL nm l).toArray⟩, .nilIface])) ∨ (¬ (nm.length ≤ 220 ∧ l.length ≤ 10000) ∧ ∃ v, e = .returned (.tuple #[.string ⟨#[]⟩, v]) ∧ FltIs w' v 1 0)) ∧ Q w w' := by
  by_cases h : 220 < nm.length ∨ 10000 < l.length
  · refine (Seal_bad nm l w hn hl h).mono ?_
    rintro e w1 ⟨hv, hq⟩
    exact ⟨.inr ⟨by omega, hv⟩, hq⟩
  · refine (Seal_ok nm l w (by omega) (by omega)).mono ?_
    rintro e w1 ⟨rfl, hq⟩
    exact ⟨.inl ⟨by omega, by omega, rfl⟩, hq⟩
end Go.Proofs.Yteadblkkbbhpjaa
