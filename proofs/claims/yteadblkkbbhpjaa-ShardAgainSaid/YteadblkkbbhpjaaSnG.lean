/- the document's Seal. -/
import Derived.Test.YteadblkkbbhpjaaSnF
import Derived.Test.YteadblkkbbhpjaaShc
set_option linter.unusedVariables false
namespace Go.Proofs.Yteadblkkbbhpjaa
open Go Go.RowKit
def blkL (l : List UInt8) (k : Nat) : List UInt8 := sub l (200 * k) (min l.length (200 * (k + 1)))
def secL (nm l : List UInt8) (k : Nat) : List UInt8 := blkL l k ++ sumL nm l.length k (blkL l k)
def sealK (nm l : List UInt8) (k : Nat) : List UInt8 := headL nm l.length ++ (List.range k).flatMap (secL nm l)
def sealL (nm l : List UInt8) : List UInt8 := sealK nm l (nB l.length)
theorem sealK_s (nm l : List UInt8) (k : Nat) : sealK nm l (k + 1) = sealK nm l k ++ (blkL l k ++ sumL nm l.length k (blkL l k)) := by unfold sealK secL; rw [List.range_succ]; simp
theorem sealK_len (nm l : List UInt8) (k : Nat) (hk : k ≤ nB l.length) : (sealK nm l k).length = sK l.length k := by
  induction k with
  | zero => simp [sealK, headL, sha_length, length_U32, sK, aK]
  | succ k ih =>
    rw [sealK_s, List.length_append, ih (by omega), sK_s _ _ (by omega)]
    have h1 := aK_lt l.length k (by omega)
    simp only [List.length_append, sumL, sha_length, blkL, length_sub]
    unfold zK
    omega
set_option maxHeartbeats 1000000 in
theorem SealR_bad (nm l : List UInt8) (w : World) (h : 220 < nm.length ∨ 10000 < l.length) (hl : nm.length ≤ 140737488355328) (hl' : l.length ≤ 140737488355328) :
    Calls Try.prog 14 #[.string ⟨nm.toArray⟩, .string ⟨l.toArray⟩] w fun e w' => e = .returned (.tuple #[.string ⟨#[]⟩, .int .i64 1]) ∧ w = w' := by
  by_cases h1 : 220 < nm.length
  · have g1 : decide (220 < (nm.length : Int)) = true := by simp; omega
    go_enter Try.func14, Try.ntmps14
    go_wp2_with fail
    go_ret2
    exact ⟨rfl, rfl⟩
  · have g1 : decide (220 < (nm.length : Int)) = false := by simp; omega
    have g2 : decide (10000 < (l.length : Int)) = true := by simp; omega
    go_enter Try.func14, Try.ntmps14
    go_wp2_with fail
    go_ret2
    exact ⟨rfl, rfl⟩
end Go.Proofs.Yteadblkkbbhpjaa
