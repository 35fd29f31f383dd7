/- frame's u32 (from XFrA, without crc). -/
import Derived.Test.YteadblkkbbhpjaaBase
import Derived.Test.YteadblkkbbhpjaaBits
import Derived.Outline
set_option linter.unusedVariables false
namespace Go.Proofs.Yteadblkkbbhpjaa
open Go Go.RowKit
def U32 (n : Int) : List UInt8 := [byteOf (n / 16777216 % 256), byteOf (n / 65536 % 256), byteOf (n / 256 % 256), byteOf (n % 256)]
def r32 (l : List UInt8) : Int := (gB l 0).toNat * 16777216 + (gB l 1).toNat * 65536 + (gB l 2).toNat * 256 + (gB l 3).toNat
theorem length_U32 (n : Int) : (U32 n).length = 4 := rfl

set_option maxHeartbeats 400000 in
theorem u32_any (n : Int) (w : World) (h0 : 0 ≤ n) (h1 : n ≤ 9223372036854775807) :
    Calls Try.prog 77 #[.int .i64 n] w fun e w' => e = .returned (.string ⟨(U32 n).toArray⟩) ∧ Q w w' := by
  have hc : ∀ (w : World) (cap : Nat), (convert 35 9 (.slice (some ⟨w.heap.size, 0, none⟩) 4 cap)).run Try.prog (w.alloc (.cells #[.int .u8 (n / 16777216 % 256), .int .u8 (n / 65536 % 256), .int .u8 (n / 256 % 256), .int .u8 (n % 256)] 5)) =
      .ok (.string ⟨(U32 n).toArray⟩) (w.alloc (.cells #[.int .u8 (n / 16777216 % 256), .int .u8 (n / 65536 % 256), .int .u8 (n / 256 % 256), .int .u8 (n % 256)] 5)) :=
    fun w cap => conv_bytes4 w _ _ _ cap _ _ _ _ Try.underlying35 Try.underlying5 Try.underlying9 (by omega) (by omega) (by omega) (by omega)
  go_enter Try.func77, Try.ntmps77
  go_wp2
  go_ret
  exact ⟨rfl, (Q.refl _).alloc _⟩
set_option maxHeartbeats 400000 in
theorem U32_any (n : Int) (w : World) (h0 : 0 ≤ n) (h1 : n ≤ 9223372036854775807) :
    Calls Try.prog 66 #[.int .i64 n] w fun e w' => e = .returned (.string ⟨(U32 n).toArray⟩) ∧ Q w w' := by
  have hc : ∀ (w : World) (cap : Nat), (convert 35 9 (.slice (some ⟨w.heap.size, 0, none⟩) 4 cap)).run Try.prog (w.alloc (.cells #[.int .u8 (n / 16777216 % 256), .int .u8 (n / 65536 % 256), .int .u8 (n / 256 % 256), .int .u8 (n % 256)] 5)) =
      .ok (.string ⟨(U32 n).toArray⟩) (w.alloc (.cells #[.int .u8 (n / 16777216 % 256), .int .u8 (n / 65536 % 256), .int .u8 (n / 256 % 256), .int .u8 (n % 256)] 5)) :=
    fun w cap => conv_bytes4 w _ _ _ cap _ _ _ _ Try.underlying35 Try.underlying5 Try.underlying9 (by omega) (by omega) (by omega) (by omega)
  go_enter Try.func66, Try.ntmps66
  go_wp2
  go_ret
  exact ⟨rfl, (Q.refl _).alloc _⟩

end Go.Proofs.Yteadblkkbbhpjaa
