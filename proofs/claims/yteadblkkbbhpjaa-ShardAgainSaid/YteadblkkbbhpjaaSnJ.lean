/- What Open answers, plainly. -/
import Derived.Test.YteadblkkbbhpjaaSnI
set_option linter.unusedVariables false
namespace Go.Proofs.Yteadblkkbbhpjaa
open Go Go.RowKit
/-- The k-th block's text, and its sum, in a sealed text of a text of n bytes. -/
def obL (s : List UInt8) (n k : Nat) : List UInt8 := sub s (sK n k) (sK n k + zK n k)
def osL (s : List UInt8) (n k : Nat) : List UInt8 := sub s (sK n k + zK n k) (sK n k + zK n k + 32)
def okK (nm s : List UInt8) (n k : Nat) : Bool := decide (osL s n k = sumL nm n k (obL s n k))
def textK (s : List UInt8) (n k : Nat) : List UInt8 := (List.range k).flatMap (obL s n)
def OpHead (nm s : List UInt8) : Prop := 36 ≤ s.length ∧ r32 s ≤ 10000 ∧ (s.length : Int) = sizeI (r32 s) ∧ sub s 0 36 = headL nm (r32 s)
/-- (text, error, place) -/
def OpSays (nm s t : List UInt8) (e a : Int) : Prop :=
  (220 < nm.length ∧ t = [] ∧ e = 1 ∧ a = 0) ∨
  (nm.length ≤ 220 ∧ ¬ OpHead nm s ∧ t = [] ∧ e = 14 ∧ a = 0) ∨
  (nm.length ≤ 220 ∧ OpHead nm s ∧ ∃ k, k < nB (r32 s).toNat ∧ (∀ j, j < k → okK nm s (r32 s).toNat j = true) ∧ okK nm s (r32 s).toNat k = false ∧ t = [] ∧ e = 14 ∧ a = (sK (r32 s).toNat k : Int)) ∨
  (nm.length ≤ 220 ∧ OpHead nm s ∧ (∀ j, j < nB (r32 s).toNat → okK nm s (r32 s).toNat j = true) ∧ t = textK s (r32 s).toNat (nB (r32 s).toNat) ∧ e = 0 ∧ a = 0)
theorem textK_s (s : List UInt8) (n k : Nat) : textK s n (k + 1) = textK s n k ++ obL s n k := by unfold textK; rw [List.range_succ]; simp
/-- It is one answer. -/
theorem OpSays.inj {nm s t t' : List UInt8} {e e' a a' : Int} (h : OpSays nm s t e a) (h' : OpSays nm s t' e' a') : t = t' ∧ e = e' ∧ a = a' := by
  rcases h with ⟨h1, rfl, rfl, rfl⟩ | ⟨h1, h2, rfl, rfl, rfl⟩ | ⟨h1, h2, k, hk, hj, hb, rfl, rfl, rfl⟩ | ⟨h1, h2, hj, rfl, rfl, rfl⟩ <;>
  rcases h' with ⟨g1, rfl, rfl, rfl⟩ | ⟨g1, g2, rfl, rfl, rfl⟩ | ⟨g1, g2, m, hm, gj, gb, rfl, rfl, rfl⟩ | ⟨g1, g2, gj, rfl, rfl, rfl⟩
  all_goals first
    | exact ⟨rfl, rfl, rfl⟩
    | omega
    | exact absurd h2 g2
    | exact absurd g2 h2
    | (rw [gj _ hk] at hb; cases hb)
    | (rw [hj _ hm] at gb; cases gb)
    | skip
  rcases Nat.lt_trichotomy k m with h | h | h
  · rw [gj _ h] at hb; cases hb
  · subst h; exact ⟨rfl, rfl, rfl⟩
  · rw [hj _ h] at gb; cases gb
end Go.Proofs.Yteadblkkbbhpjaa
