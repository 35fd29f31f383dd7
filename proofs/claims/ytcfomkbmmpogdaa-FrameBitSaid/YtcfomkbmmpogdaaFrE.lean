/- the document's Pack. -/
import Derived.Test.YtcfomkbmmpogdaaFrD
set_option linter.unusedVariables false
namespace Go.Proofs.Ytcfomkbmmpogdaa
open Go Go.RowKit

theorem rightB_false {e n : Int} (h : rightB e n = false) : e < 0 ∨ 4611686018427387904 < e ∨ n < 0 ∨ 4294967295 < n := by
  have := of_decide_eq_false h; omega

set_option maxRecDepth 100000 in
set_option maxHeartbeats 1000000 in
theorem RPack_bad (e n : Int) (p : List UInt8) (w : World) (hl : p.length ≤ 140737488355328) (h : rightB e n = false ∨ 60000 < p.length) :
    Calls Try.prog 11 #[.int .i64 e, .int .i64 n, .string ⟨p.toArray⟩] w fun x w' => x = .returned (.tuple #[.string ⟨#[]⟩, .int .i64 1]) ∧ w = w' := by
  have h' : e < 0 ∨ 4611686018427387904 < e ∨ n < 0 ∨ 4294967295 < n ∨ 60000 < p.length := by
    rcases h with h | h
    · have := rightB_false h; omega
    · omega
  clear h
  by_cases a1 : e < 0
  · go_enter Try.func11, Try.ntmps11
    go_wp2
    go_ret2
    exact ⟨rfl, rfl⟩
  by_cases a2 : 4611686018427387904 < e
  · go_enter Try.func11, Try.ntmps11
    go_wp2
    go_ret2
    exact ⟨rfl, rfl⟩
  by_cases a3 : n < 0
  · go_enter Try.func11, Try.ntmps11
    go_wp2
    go_ret2
    exact ⟨rfl, rfl⟩
  by_cases a4 : 4294967295 < n
  · go_enter Try.func11, Try.ntmps11
    go_wp2
    go_ret2
    exact ⟨rfl, rfl⟩
  have a5 : 60000 < p.length := by omega
  go_enter Try.func11, Try.ntmps11
  go_wp2
  go_ret2
  exact ⟨rfl, rfl⟩

theorem conv_zeros (w : World) (d cap : Nat) :
    (convert 40 9 (.slice (some ⟨w.heap.size, 0, none⟩) d cap)).run Try.prog (w.alloc (.cells (madeCells #[.int .u8 0] d) 5)) =
      .ok (.string ⟨(zL d).toArray⟩) (w.alloc (.cells (madeCells #[.int .u8 0] d) 5)) := by
  have h := conv_bytes (P := Try.prog) w 40 9 5 cap (List.replicate d 0) Try.underlying40 Try.underlying5 Try.underlying9 (by intro n hn; have := List.eq_of_mem_replicate hn; omega)
  have e1 : (madeCells #[.int .u8 0] d) = ((List.replicate d (0 : Int)).map (Value.int .u8)).toArray := by
    rw [← Array.toList_inj, toList_madeCells_one]; simp
  rw [e1]
  simpa [byteOf, zL] using h

set_option maxRecDepth 100000 in
set_option maxHeartbeats 1000000 in
theorem RPack_ok (e n : Int) (p : List UInt8) (w : World) (hl : p.length ≤ 60000) (h : rightB e n = true) :
    Calls Try.prog 11 #[.int .i64 e, .int .i64 n, .string ⟨p.toArray⟩] w fun x w' => x = .returned (.tuple #[.string ⟨(packL e n p).toArray⟩, .int .i64 0]) ∧ Q w w' := by
  obtain ⟨e0, e1, n0, n1⟩ := right_spec h
  have l1 : ∀ k, (U32 k).length = 4 := length_U32
  clear h
  go_enter Try.func11, Try.ntmps11
  go_wp2_with fail
  refine (U32_any _ _ (by omega) (by omega)).mono ?_
  rintro x w1 ⟨rfl, hq1⟩
  go_wp2_with fail
  refine (U32_any _ _ (by omega) (by omega)).mono ?_
  rintro x w2 ⟨rfl, hq2⟩
  go_wp2_with fail
  refine (U64_any _ _ (by omega) (by omega)).mono ?_
  rintro x w3 ⟨rfl, hq3⟩
  go_wp2_with fail
  have hH : hdL e n p = U32 p.length ++ (U32 n ++ (U32 (e / 4294967296) ++ U32 e)) := rfl
  have hA : hdL e n p ++ p = U32 p.length ++ (U32 n ++ (U32 (e / 4294967296) ++ (U32 e ++ p))) := by unfold hdL; simp
  rw [← hH, ← hA]
  have HH := Lib.hid hH
  clear hH hA
  have LH := hdL_length e n p
  refine (SumR_any _ _ (by rw [List.length_append, LH]; omega)).mono ?_
  rintro x w5 ⟨rfl, rfl⟩
  have e2 : crcSum (hdL e n p ++ p) = crcMore (crcSum (hdL e n p)) p := crcMore_append _ _ _
  rw [e2]
  clear e2
  have c1 := (crcMore (crcSum (hdL e n p)) p).isLt
  have c2 : 0 ≤ ((crcMore (crcSum (hdL e n p)) p).toNat : Int) := by omega
  have c3 : ((crcMore (crcSum (hdL e n p)) p).toNat : Int) < 4294967296 := by omega
  go_wp2_with fail
  refine (U32_any _ _ (by omega) (by omega)).mono ?_
  rintro x w6 ⟨rfl, hq6⟩
  go_wp2_with fail
  refine (Sectors_any _ _ (by omega) (by omega)).mono ?_
  rintro x w7 ⟨rfl, rfl⟩
  obtain ⟨S, hS⟩ : ∃ S : Nat, S = (24 + p.length + 63) / 64 := ⟨_, rfl⟩
  rw [show ((16 + (4 + (p.length : Int)) + 1 + 1 + 1 + 1 + 63) / 64) = (S : Int) from by omega]
  obtain ⟨d, hd⟩ : ∃ d : Nat, d = S * 64 - (24 + p.length) := ⟨_, rfl⟩
  have hd1 : d ≤ 63 := by omega
  have hmk : ∀ w, (Instr.makeSlice 40 (.int .i64 ((S : Int) * 64 - (16 + (4 + (p.length : Int)) + 1 + 1 + 1 + 1))) (.int .i64 ((S : Int) * 64 - (16 + (4 + (p.length : Int)) + 1 + 1 + 1 + 1)))).run Try.prog w =
      .ok (.slice (some ⟨w.heap.size, 0, none⟩) d d) (w.alloc (.cells (madeCells #[.int .u8 0] d) 5)) := by
    intro w
    rw [show ((S : Int) * 64 - (16 + (4 + (p.length : Int)) + 1 + 1 + 1 + 1)) = (d : Int) from by omega]
    exact run_make_row' _ _ _ 1 Try.underlying40 (by kernel_rfl) rfl .i64 .i64 d (by omega) (by omega) w
  have hE : (endsN p.length).toNat - (24 + p.length) = d := by unfold endsN; omega
  have hS1 : S ≤ 2000 := by omega
  have hcv := fun w => conv_zeros w d d
  have hlz : (zL d).length ≤ 63 := by rw [length_zL]; omega
  have HD := Lib.hid hd
  have HS := Lib.hid hS
  have HE := Lib.hid hE
  clear hd hS hE
  go_wp2_with fail
  go_ret2
  refine ⟨ret_eq ?_, (((((hq1.trans hq2).trans hq3).trans hq6).alloc _))⟩
  have e1 : packL e n p = [1, 0, 0, 0] ++ (hdL e n p ++ (U32 ((crcMore (crcSum (hdL e n p)) p).toNat : Int) ++ (p ++ zL d))) := by
    unfold packL; rw [HE.out]
  rw [e1]
  simp
end Go.Proofs.Ytcfomkbmmpogdaa
