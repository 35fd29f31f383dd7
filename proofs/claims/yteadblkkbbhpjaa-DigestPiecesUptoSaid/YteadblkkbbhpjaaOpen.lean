/- Arguments that came in, opened: slices of strings. -/
import Derived.Test.YteadblkkbbhpjaaStrs
import Derived.SliceStrings
set_option linter.unusedVariables false
namespace Go.Proofs.Yteadblkkbbhpjaa
open Go Go.RowKit Go.ChangeShapes Go.WideShapes
theorem strs_open {H : Type} {enc : TypeId × Value → H} {W : World} {A : Option Addr} {len cap : Nat} {d : DataW H} {p : List MemPlace}
    (h : DataW.Trod enc Try.prog W 0 (fun _ => true) true 45 (.slice A len cap) d p) :
    ∃ ls : List (List UInt8), StrsAt W A len ls ∧ cap ≤ 9223372036854775807 ∧ len ≤ cap ∧ ∀ s ∈ ls, s.length ≤ 9223372036854775807 := by
  obtain ⟨fuel, hf⟩ := h
  rcases open_strings Try.underlying45 Try.underlying9 (by kernel_rfl) hf with ⟨hcs, hx⟩ | ⟨a, len', cap', ss, hcs, _, hl, hm, hz, hx, hcell, hws⟩
  · simp [Value.cells] at hcs
    obtain ⟨rfl, rfl, rfl⟩ := hcs
    exact ⟨[], ⟨rfl, fun h => absurd h (by omega)⟩, by omega, by omega, by simp⟩
  · simp [Value.cells] at hcs
    obtain ⟨rfl, rfl, rfl⟩ := hcs
    simp only [if_true] at hz
    refine ⟨(ss.take len).map (fun s => s.data.toList), ⟨by simp; omega, fun _ => ⟨a, rfl, fun i hi => ?_⟩⟩, hm, hl, ?_⟩
    · have hi' : i < len ∧ i < ss.length := by simp at hi; omega
      rw [hcell i hi'.2]
      simp [List.getD, hi'.2]
    · intro s hs
      obtain ⟨t, ht, rfl⟩ := List.mem_map.1 hs
      exact hws t (List.mem_of_mem_take ht)
end Go.Proofs.Yteadblkkbbhpjaa
