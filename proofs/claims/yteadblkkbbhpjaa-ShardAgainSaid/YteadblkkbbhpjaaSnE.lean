/- Errors: what fault makes, errors.Is of it. -/
import Derived.Test.YteadblkkbbhpjaaBase
import Derived.Outline
import Derived.LaidEql
import Derived.Stop.Asserts
import Derived.RowKitTokens
set_option linter.unusedVariables false
namespace Go.Proofs.Yteadblkkbbhpjaa
open Go Go.RowKit Go.Extern.Stop Go.Stop Go.Extern

/-- A *api.Fault of a code at a place, of nothing inner, in a block of its own. -/
def FaultAt (w : World) (b : Nat) (c a : Int) : Prop := w.heap[b]? = some (.cells #[.int .i64 c, .int .i64 a, .nilIface] 70 (0, 0))
theorem FaultAt.q {w w' : World} {b : Nat} {c a : Int} (h : FaultAt w b c a) (hq : Q w w') : FaultAt w' b c a := hq.block h
theorem FaultAt.cell0 {w : World} {b : Nat} {c a : Int} (h : FaultAt w b c a) : w.cell? ⟨b, 0, none⟩ = some (.int .i64 c) := by
  unfold FaultAt at h; simp [World.cell?, h]
theorem FaultAt.cell1 {w : World} {b : Nat} {c a : Int} (h : FaultAt w b c a) : w.cell? ⟨b, 1, none⟩ = some (.int .i64 a) := by
  unfold FaultAt at h; simp [World.cell?, h]
theorem FaultAt.cell2 {w : World} {b : Nat} {c a : Int} (h : FaultAt w b c a) : w.cell? ⟨b, 2, none⟩ = some .nilIface := by
  unfold FaultAt at h; simp [World.cell?, h]

set_option maxHeartbeats 400000 in
theorem fault_any (c a : Int) (w : World) :
    Calls Try.prog 76 #[.int .i64 c, .int .i64 a] w fun e w' => (∃ b, e = .returned (.iface 67 (.pointer (some ⟨b, 0, none⟩))) ∧ FaultAt w' b c a) ∧ Q w w' := by
  go_enter Try.func76, Try.ntmps76
  go_wp2
  go_ret
  exact ⟨⟨w.heap.size, rfl, (MapKept.heap_alloc w _).1⟩, (Q.refl _).alloc _⟩


/-! errors.Is of such an error: closed facts on the types, then the walk. -/
theorem callTypeOf (n : Int) (w : World) : (callFunc 68 #[.iface 38 (.int .i64 n)]).run Try.prog w = .ok (.value (.iface 112 (.agg #[.pointer (some ⟨1, 38, none⟩)]))) w := by kernel_rfl
theorem callComparable (w : World) : (callFunc 114 #[.agg #[.pointer (some ⟨1, 38, none⟩)]]).run Try.prog w = .ok (.value (.bool true)) w := by kernel_rfl
theorem hasIs (v : Value) (xT : TypeId) (w : World) : (Instr.typeAssert (.iface 67 v) xT 114 true).run Try.prog w = .ok (.tuple #[.iface 67 v, .bool true]) w := run_typeAssert_hasB Try.underlying114 (by kernel_rfl) v xT w

theorem mComparable (v : Value) (w : World) : (Go.method 262 112 v "Comparable").run Try.prog w = .ok (114, v) w := by kernel_rfl
theorem mIs (v : Value) (w : World) : (Go.method 262 67 v "Is").run Try.prog w = .ok (109, v) w := by kernel_rfl
theorem asErrno (n : Int) (w : World) : (Instr.typeAssert (.iface 38 (.int .i64 n)) 24 38 true).run Try.prog w = .ok (.tuple #[.int .i64 n, .bool true]) w := by kernel_rfl
theorem asFault (a : Option Addr) (w : World) : (Instr.typeAssert (.iface 67 (.pointer a)) 24 67 true).run Try.prog w = .ok (.tuple #[.pointer a, .bool true]) w := by kernel_rfl

set_option maxHeartbeats 400000 in
theorem faultIs_true (b : Nat) (c a : Int) (w : World) (h : FaultAt w b c a) :
    Calls Try.prog 109 #[.pointer (some ⟨b, 0, none⟩), .iface 38 (.int .i64 c)] w fun e w' => e = .returned (.bool true) ∧ w = w' := by
  have c0 := h.cell0
  have hA := asErrno
  go_enter Try.func109, Try.ntmps109
  go_wp2
  go_ret
  exact ⟨rfl, rfl⟩

set_option maxHeartbeats 1000000 in
theorem errorsis_true (b : Nat) (c a : Int) (w : World) (h : FaultAt w b c a) :
    Calls Try.prog 69 #[.iface 67 (.pointer (some ⟨b, 0, none⟩)), .iface 38 (.int .i64 c), .bool true] w fun e w' => e = .returned (.bool true) ∧ w = w' := by
  have hty := run_eql_iface_types (P := Try.prog) 67 38 (.pointer (some ⟨b, 0, none⟩)) (.int .i64 c) Try.underlying24 (by decide) w
  have hI := hasIs
  have mI := mIs
  go_enter Try.func69, Try.ntmps69
  go_wp2
  refine wp_loop_rounds 1 ?_
  rw [rounds_succ]
  go_wp2_with (go_at_call 109; refine (faultIs_true b c a _ h).mono ?_; rintro e w' ⟨rfl, rfl⟩)
  go_ret
  exact ⟨rfl, rfl⟩

set_option maxHeartbeats 400000 in
theorem errorsIs_true (b : Nat) (c a : Int) (w : World) (h : FaultAt w b c a) :
    Calls Try.prog 48 #[.iface 67 (.pointer (some ⟨b, 0, none⟩)), .iface 38 (.int .i64 c)] w fun e w' => e = .returned (.bool true) ∧ w = w' := by
  have tT := callTypeOf
  have cT := callComparable
  have mC := mComparable
  go_enter Try.func48, Try.ntmps48
  go_wp2_with (go_at_call 69; refine (errorsis_true b c a _ h).mono ?_; rintro e w' ⟨rfl, rfl⟩)
  go_ret
  exact ⟨rfl, rfl⟩

/-- What an error says: 0: none. -/
def ErrIs (w : World) (v : Value) (c a : Int) : Prop := (c = 0 ∧ v = .nilIface) ∨ (c ≠ 0 ∧ ∃ b, v = .iface 67 (.pointer (some ⟨b, 0, none⟩)) ∧ FaultAt w b c a)
theorem ErrIs.q {w w' : World} {v : Value} {c a : Int} (h : ErrIs w v c a) (hq : Q w w') : ErrIs w' v c a := by
  rcases h with h | ⟨h0, b, h1, h2⟩
  · exact .inl h
  · exact .inr ⟨h0, b, h1, h2.q hq⟩

set_option maxHeartbeats 400000 in
theorem is_nil (a : Int) (w : World) :
    Calls Try.prog 15 #[.nilIface, .int .i64 0, .int .i64 a] w fun e w' => e = .returned (.bool true) ∧ w = w' := by
  go_enter Try.func15, Try.ntmps15
  go_wp2
  go_ret
  exact ⟨rfl, rfl⟩
set_option maxHeartbeats 1000000 in
theorem is_fault (b : Nat) (c a : Int) (w : World) (h : FaultAt w b c a) (hc : (c == 0) = false) :
    Calls Try.prog 15 #[.iface 67 (.pointer (some ⟨b, 0, none⟩)), .int .i64 c, .int .i64 a] w fun e w' => e = .returned (.bool true) ∧ Q w w' := by
  have hA := asFault
  have c0 := h.cell0
  have c1 := h.cell1
  have c2 := h.cell2
  go_enter Try.func15, Try.ntmps15
  go_wp2_with (go_at_call 48; refine (errorsIs_true b c a _ h).mono ?_; rintro e w' ⟨rfl, rfl⟩)
  go_ret
  exact ⟨rfl, Q.refl _⟩
theorem is_any (v : Value) (c a : Int) (w : World) (h : ErrIs w v c a) :
    Calls Try.prog 15 #[v, .int .i64 c, .int .i64 a] w fun e w' => e = .returned (.bool true) ∧ Q w w' := by
  rcases h with ⟨rfl, rfl⟩ | ⟨h0, b, rfl, h2⟩
  · exact (is_nil a w).mono fun e w' ⟨h1, h2⟩ => ⟨h1, h2 ▸ Q.refl _⟩
  · exact is_fault b c a w h2 (by simpa using h0)
end Go.Proofs.Yteadblkkbbhpjaa
