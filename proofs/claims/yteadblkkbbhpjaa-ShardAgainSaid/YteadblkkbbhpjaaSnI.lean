/- the document's Read32 at 0. -/
import Derived.Test.YteadblkkbbhpjaaSnH
set_option linter.unusedVariables false
namespace Go.Proofs.Yteadblkkbbhpjaa
open Go Go.RowKit
set_option maxHeartbeats 400000 in
theorem Read32R_any (l : List UInt8) (w : World) (h0 : 4 ≤ l.length) (hl : l.length ≤ 140737488355328) :
    Calls Try.prog 49 #[.string ⟨l.toArray⟩, .int .i64 0] w fun e w' => e = .returned (.int .i64 (r32 l)) ∧ Q w w' := by
  have b0 := gB_lt l 0
  have b1 := gB_lt l 1
  have b2 := gB_lt l 2
  have b3 := gB_lt l 3
  have hr : bits .or .i64 (bits .or .i64 (bits .or .i64 (((gB l 0).toNat : Int) * 16777216) (((gB l 1).toNat : Int) * 65536)) (((gB l 2).toNat : Int) * 256)) ((gB l 3).toNat : Int) = r32 l :=
    or_four _ _ _ _ (by omega) (by omega) (by omega) (by omega) (by omega) (by omega) (by omega) (by omega)
  go_enter Try.func49, Try.ntmps49
  go_wp2
  refine wp_region_q (by kernel_rfl) (by kernel_rfl) ?_
  repeat (go_big_quiet_step (fail))
  refine wpQuiet_nil ?_
  rintro _ ⟨⟨w1, hq1⟩, rfl⟩
  go_wp2
  go_ret
  exact ⟨rfl, hq1⟩
end Go.Proofs.Yteadblkkbbhpjaa
