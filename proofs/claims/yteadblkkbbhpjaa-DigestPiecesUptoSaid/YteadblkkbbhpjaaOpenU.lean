/- A slice of strings that came in, of small bulk: how long its texts are in all. -/
import Derived.Test.YteadblkkbbhpjaaRows
import Derived.Test.YteadblkkbbhpjaaOpen
set_option linter.unusedVariables false
namespace Go.Proofs.Yteadblkkbbhpjaa
open Go Go.RowKit Go.ChangeShapes Go.WideShapes
theorem bulk_strs {H : Type} (ss : List ByteArray) : (ss.map (fun s => s.data.toList)).flatten.length ≤ Rows.uptoBulkAll (H := H) (strs ss) ∧ ss.length ≤ Rows.uptoBulkAll (H := H) (strs ss) := by
  induction ss with
  | nil => simp
  | cons a r ih =>
    have h1 := ih.1
    have h2 := ih.2
    simp only [strs, List.map_cons, List.flatten_cons, List.length_append, Rows.uptoBulkAll, Rows.uptoBulk, List.length_cons] at h1 h2 ⊢
    omega
theorem strs_bulk {H : Type} {enc : TypeId × Value → H} {W : World} {A : Option Addr} {len cap : Nat} {d : DataW H} {p : List MemPlace}
    (h : DataW.Trod enc Try.prog W 0 (fun _ => true) true 45 (.slice A len cap) d p) :
    ∃ ls : List (List UInt8), StrsAt W A len ls ∧ cap ≤ 9223372036854775807 ∧ len ≤ cap ∧ ls.flatten.length ≤ Rows.uptoBulk d ∧ ls.length ≤ Rows.uptoBulk d := by
  obtain ⟨fuel, hf⟩ := h
  rcases open_strings Try.underlying45 Try.underlying9 (by kernel_rfl) hf with ⟨hcs, hx⟩ | ⟨a, len', cap', ss, hcs, _, hl, hm, hz, hx, hcell, hws⟩
  · simp [Value.cells] at hcs
    obtain ⟨rfl, rfl, rfl⟩ := hcs
    exact ⟨[], ⟨rfl, fun h => absurd h (by omega)⟩, by omega, by omega, by simp, by simp⟩
  · simp [Value.cells] at hcs
    obtain ⟨rfl, rfl, rfl⟩ := hcs
    simp only [if_true] at hz
    have hb := bulk_strs (H := H) (ss.take len)
    have hd : d = .slice (strs (ss.take len)) (strs (ss.drop len)) := congrArg Prod.fst hx
    refine ⟨(ss.take len).map (fun s => s.data.toList), ⟨by simp; omega, fun _ => ⟨a, rfl, fun i hi => ?_⟩⟩, hm, hl, ?_, ?_⟩
    · have hi' : i < len ∧ i < ss.length := by simp at hi; omega
      rw [hcell i hi'.2]
      simp [List.getD, hi'.2]
    · rw [hd, Rows.uptoBulk]; have := hb.1; omega
    · rw [hd, Rows.uptoBulk, List.length_map]; have := hb.2; omega
end Go.Proofs.Yteadblkkbbhpjaa
