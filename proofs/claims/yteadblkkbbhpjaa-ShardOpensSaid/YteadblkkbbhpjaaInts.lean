/- A slice of numbers as a list; an argument []int, opened. -/
import Derived.Test.YteadblkkbbhpjaaBase
import Derived.ChangeSlices
set_option linter.unusedVariables false
namespace Go.Proofs.Yteadblkkbbhpjaa
open Go Go.RowKit Go.ChangeShapes Go.WideShapes
/-- The slice holds these numbers. -/
def IntsAt (w : World) (A : Option Addr) (n : Nat) (zs : List Int) : Prop :=
  n = zs.length ∧ (0 < n → ∃ ad, A = some ad ∧ ∀ i (h : i < zs.length), w.cell? (ad.add i) = some (.int .i64 zs[i])) ∧ ∀ z ∈ zs, -9223372036854775808 ≤ z ∧ z ≤ 9223372036854775807
theorem IntsAt.q {w w' : World} {A : Option Addr} {n : Nat} {zs : List Int} (h : IntsAt w A n zs) (hq : Q w w') : IntsAt w' A n zs :=
  ⟨h.1, fun h0 => let ⟨ad, e, hc⟩ := h.2.1 h0; ⟨ad, e, fun i hi => hq.cell (hc i hi)⟩, h.2.2⟩
theorem IntsAt.at {w : World} {A : Option Addr} {n : Nat} {zs : List Int} (h : IntsAt w A n zs) {i : Nat} (hi : i < n) :
    ∃ ad, A = some ad ∧ ∃ z : Int, w.cell? (ad.add i) = some (.int .i64 z) ∧ -9223372036854775808 ≤ z ∧ z ≤ 9223372036854775807 := by
  obtain ⟨ad, e, hc⟩ := h.2.1 (by omega)
  have hi' : i < zs.length := by rw [← h.1]; exact hi
  exact ⟨ad, e, zs[i], hc i hi', h.2.2 _ (List.getElem_mem hi')⟩
theorem ints_open {H : Type} {enc : TypeId × Value → H} {W : World} {A : Option Addr} {len cap : Nat} {d : DataW H} {p : List MemPlace}
    (h : DataW.Trod enc Try.prog W 0 (fun _ => true) true 32 (.slice A len cap) d p) :
    ∃ zs : List Int, IntsAt W A len zs ∧ cap ≤ 9223372036854775807 ∧ len ≤ cap := by
  obtain ⟨fuel, hf⟩ := h
  rcases open_ints Try.underlying32 Try.underlying3 (by kernel_rfl) hf with ⟨hcs, hx⟩ | ⟨a, len', cap', ss, hcs, _, hl, hm, hz, hx, hcell, hws⟩
  · simp [Value.cells] at hcs
    obtain ⟨rfl, rfl, rfl⟩ := hcs
    exact ⟨[], ⟨rfl, fun h => absurd h (by omega), by simp⟩, by omega, by omega⟩
  · simp [Value.cells] at hcs
    obtain ⟨rfl, rfl, rfl⟩ := hcs
    simp only [if_true] at hz
    refine ⟨ss.take len, ⟨by simp; omega, fun _ => ⟨a, rfl, fun i hi => ?_⟩, fun z hz' => ?_⟩, hm, hl⟩
    · have hi' : i < len ∧ i < ss.length := by simp at hi; omega
      rw [hcell i hi'.2]
      simp [List.getD, hi'.2]
    · have := hws z (List.mem_of_mem_take hz')
      simp [Lit.wf] at this
      have e : IntKind.i64.min = -9223372036854775808 := by decide
      rw [e] at this
      exact this
end Go.Proofs.Yteadblkkbbhpjaa
