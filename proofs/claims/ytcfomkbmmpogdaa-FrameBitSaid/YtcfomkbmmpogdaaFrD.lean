/- frame's sums and Pack, and the document's. -/
import Derived.Test.YtcfomkbmmpogdaaFrA
import Derived.Test.YtcfomkbmmpogdaaErr
import Derived.Test.YtcfomkbmmpogdaaStrs
import Derived.Deep.OwnRows
import Derived.Outline
set_option linter.unusedVariables false
namespace Go.Proofs.Ytcfomkbmmpogdaa
open Go Go.RowKit

set_option maxHeartbeats 400000 in
theorem U64_any (n : Int) (w : World) (h0 : 0 ≤ n) (h1 : n ≤ 9223372036854775807) :
    Calls Try.prog 30 #[.int .i64 n] w fun e w' => e = .returned (.string ⟨(U32 (n / 4294967296) ++ U32 n).toArray⟩) ∧ Q w w' := by
  have l1 := length_U32 n
  have l2 := length_U32 (n / 4294967296)
  have h2 : 0 ≤ n / 4294967296 := by omega
  have h3 : n / 4294967296 ≤ 9223372036854775807 := by omega
  go_enter Try.func30, Try.ntmps30
  go_wp2_with fail
  refine (U32_any _ _ h2 h3).mono ?_
  rintro e w1 ⟨rfl, hq1⟩
  go_wp2_with fail
  refine (U32_any _ _ h0 h1).mono ?_
  rintro e w2 ⟨rfl, hq2⟩
  go_wp2_with fail
  go_ret
  exact ⟨rfl, hq1.trans hq2⟩

set_option maxHeartbeats 400000 in
theorem Shift_any (r : BitVec 32) (b : UInt8) (w : World) :
    Calls Try.prog 39 #[.int .u32 (r.toNat : Int), .int .u8 (b.toNat : Int)] w fun e w' => e = .returned (.int .u32 ((shB r b).toNat : Int)) ∧ w = w' := by
  have r1 := r.isLt
  have b1 := b.toNat_lt
  have hx : bits .xor .u32 (r.toNat : Int) (b.toNat : Int) = ((r ^^^ bv8 b).toNat : Int) := by rw [← bv8_toNat, xor32]
  go_enter Try.func39, Try.ntmps39
  go_wp2
  go_loop [0, 5] (fun t i => ∃ k : Nat, k ≤ 8 ∧ i = .int .i64 k ∧ t = .int .u32 ((shN k (r ^^^ bv8 b)).toNat : Int)) (fun _ i => 8 - (intOf i).toNat)
  case atStart => exact ⟨0, by omega, rfl, rfl⟩
  case round =>
    obtain ⟨k, hk, rfl, rfl⟩ := hrel
    have y1 := (shN k (r ^^^ bv8 b)).isLt
    go_wp2
    · go_round
      case rel => exact ⟨k + 1, by omega, by go_num, by rw [sh1_odd ‹_›]; rfl⟩
      case measure => simp [intOf]; omega
    · go_round
      case rel => exact ⟨k + 1, by omega, by go_num, by rw [sh1_even ‹_›]; rfl⟩
      case measure => simp [intOf]; omega
    · go_ret
      obtain rfl : k = 8 := by omega
      exact ⟨rfl, rfl⟩

theorem take_snocB (l : List UInt8) (k : Nat) (h : k < l.length) : l.take (k + 1) = l.take k ++ [gB l k] := by
  rw [List.take_succ_eq_append_getElem h]; simp [gB, List.getD, h]

set_option maxHeartbeats 400000 in
theorem More_any (s : BitVec 32) (l : List UInt8) (w : World) (hl : l.length ≤ 140737488355328) :
    Calls Try.prog 19 #[.int .u32 (s.toNat : Int), .string ⟨l.toArray⟩] w fun e w' => e = .returned (.int .u32 ((crcMore s l).toNat : Int)) ∧ w = w' := by
  have r1 := s.isLt
  have hx : bits .xor .u32 IntKind.u32.max (s.toNat : Int) = ((bnot s).toNat : Int) := not32m s
  go_enter Try.func19, Try.ntmps19
  go_wp2
  go_loop [0, 10] (fun t i => ∃ k : Nat, k ≤ l.length ∧ i = .int .i64 k ∧ t = .int .u32 ((shL (bnot s) (l.take k)).toNat : Int)) (fun _ i => l.length - (intOf i).toNat)
  case atStart => exact ⟨0, by omega, rfl, rfl⟩
  case round =>
    obtain ⟨k, hk, rfl, rfl⟩ := hrel
    have y1 := (shL (bnot s) (l.take k)).isLt
    by_cases hlt : k < l.length
    · have HS : Hid (shL (bnot s) (l.take (k + 1)) = shB (shL (bnot s) (l.take k)) (gB l k)) := by rw [take_snocB l k hlt]; exact shL_snoc _ _ _
      clear hx
      go_wp2_with (go_at_call 38; refine (shift_any _ _ _).mono ?_; rintro e w' ⟨rfl, rfl⟩)
      go_round
      case rel => exact ⟨k + 1, by omega, by go_num, by rw [HS.out]⟩
      case measure => simp [intOf]; omega
    · obtain rfl : k = l.length := by omega
      have hy : bits .xor .u32 IntKind.u32.max ((shL (bnot s) l).toNat : Int) = ((bnot (shL (bnot s) l)).toNat : Int) := not32m _
      rw [List.take_length]
      clear hx
      go_wp2
      go_ret
      exact ⟨rfl, rfl⟩
set_option maxHeartbeats 400000 in
theorem MoreR_any (s : BitVec 32) (l : List UInt8) (w : World) (hl : l.length ≤ 140737488355328) :
    Calls Try.prog 20 #[.int .u32 (s.toNat : Int), .string ⟨l.toArray⟩] w fun e w' => e = .returned (.int .u32 ((crcMore s l).toNat : Int)) ∧ w = w' := by
  have r1 := s.isLt
  have hx : bits .xor .u32 IntKind.u32.max (s.toNat : Int) = ((bnot s).toNat : Int) := not32m s
  go_enter Try.func20, Try.ntmps20
  go_wp2
  go_loop [5, 6] (fun t i => ∃ k : Nat, k ≤ l.length ∧ i = .int .i64 k ∧ t = .int .u32 ((shL (bnot s) (l.take k)).toNat : Int)) (fun _ i => l.length - (intOf i).toNat)
  case atStart => exact ⟨0, by omega, rfl, rfl⟩
  case round =>
    obtain ⟨k, hk, rfl, rfl⟩ := hrel
    have y1 := (shL (bnot s) (l.take k)).isLt
    by_cases hlt : k < l.length
    · have HS : Hid (shL (bnot s) (l.take (k + 1)) = shB (shL (bnot s) (l.take k)) (gB l k)) := by rw [take_snocB l k hlt]; exact shL_snoc _ _ _
      clear hx
      go_wp2_with (go_at_call 39; refine (Shift_any _ _ _).mono ?_; rintro e w' ⟨rfl, rfl⟩)
      go_round
      case rel => exact ⟨k + 1, by omega, by go_num, by rw [HS.out]⟩
      case measure => simp [intOf]; omega
    · obtain rfl : k = l.length := by omega
      have hy : bits .xor .u32 IntKind.u32.max ((shL (bnot s) l).toNat : Int) = ((bnot (shL (bnot s) l)).toNat : Int) := not32m _
      rw [List.take_length]
      clear hx
      go_wp2
      go_ret
      exact ⟨rfl, rfl⟩
set_option maxHeartbeats 400000 in
theorem Sum_any (l : List UInt8) (w : World) (hl : l.length ≤ 140737488355328) :
    Calls Try.prog 17 #[.string ⟨l.toArray⟩] w fun e w' => e = .returned (.int .u32 ((crcSum l).toNat : Int)) ∧ w = w' := by
  go_enter Try.func17, Try.ntmps17
  go_wp2_with fail
  refine (More_any 0#32 l _ hl).mono ?_
  rintro e w1 ⟨rfl, rfl⟩
  go_wp2_with fail
  go_ret
  exact ⟨rfl, rfl⟩
set_option maxHeartbeats 400000 in
theorem SumR_any (l : List UInt8) (w : World) (hl : l.length ≤ 140737488355328) :
    Calls Try.prog 18 #[.string ⟨l.toArray⟩] w fun e w' => e = .returned (.int .u32 ((crcSum l).toNat : Int)) ∧ w = w' := by
  go_enter Try.func18, Try.ntmps18
  go_wp2_with fail
  refine (MoreR_any 0#32 l _ hl).mono ?_
  rintro e w1 ⟨rfl, rfl⟩
  go_wp2_with fail
  go_ret
  exact ⟨rfl, rfl⟩

def hdL (e n : Int) (p : List UInt8) : List UInt8 := U32 p.length ++ (U32 n ++ (U32 (e / 4294967296) ++ U32 e))
def zL (n : Nat) : List UInt8 := List.replicate n 0
theorem length_zL (n : Nat) : (zL n).length = n := by unfold zL; simp
def packL (e n : Int) (p : List UInt8) : List UInt8 :=
  [1, 0, 0, 0] ++ (hdL e n p ++ (U32 ((crcMore (crcSum (hdL e n p)) p).toNat : Int) ++ (p ++ zL ((endsN p.length).toNat - (24 + p.length)))))
theorem crcMore_append (s : BitVec 32) (a b : List UInt8) : crcMore s (a ++ b) = crcMore (crcMore s a) b := by
  unfold crcMore; rw [shL_append, bnot_bnot]
theorem hdL_length (e n : Int) (p : List UInt8) : (hdL e n p).length = 16 := rfl

set_option maxRecDepth 100000 in
set_option maxHeartbeats 1000000 in
theorem Pack_bad (e n : Int) (p : List UInt8) (w : World) (hl : p.length ≤ 140737488355328) (h : rightB e n = false ∨ 60000 < p.length) :
    Calls Try.prog 10 #[.int .i64 e, .int .i64 n, .string ⟨p.toArray⟩] w fun x w' => ∃ ev, x = .returned (.tuple #[.string ⟨#[]⟩, ev]) ∧ ErrIs w' ev 1 0 ∧ Q w w' := by
  by_cases hr : rightB e n = true
  · have hp : 60000 < p.length := by rcases h with h | h; · rw [hr] at h; cases h
                                     · exact h
    go_enter Try.func10, Try.ntmps10
    go_wp2_with fail
    refine (right_any _ _ _).mono ?_
    rintro x w1 ⟨rfl, rfl⟩
    rw [hr]
    go_wp2_with fail
    refine (fault_any _ _ _).mono ?_
    rintro e w1 ⟨⟨b, rfl, hf⟩, hq1⟩
    go_wp2_with fail
    go_ret2
    exact ⟨_, rfl, .inr ⟨by decide, b, rfl, hf⟩, hq1⟩
  · have hr : rightB e n = false := by simpa using hr
    go_enter Try.func10, Try.ntmps10
    go_wp2_with fail
    refine (right_any _ _ _).mono ?_
    rintro x w1 ⟨rfl, rfl⟩
    rw [hr]
    go_wp2_with fail
    refine (fault_any _ _ _).mono ?_
    rintro e w1 ⟨⟨b, rfl, hf⟩, hq1⟩
    go_wp2_with fail
    go_ret2
    exact ⟨_, rfl, .inr ⟨by decide, b, rfl, hf⟩, hq1⟩

theorem right_spec {e n : Int} (h : rightB e n = true) : 0 ≤ e ∧ e ≤ 4611686018427387904 ∧ 0 ≤ n ∧ n ≤ 4294967295 := of_decide_eq_true h
theorem repeat_zero (c : Nat) : Lib.repeatL [0] c = zL c := by
  unfold zL
  induction c with
  | zero => rfl
  | succ c ih => rw [Lib.repeatL, ih]; rfl

set_option maxRecDepth 100000 in
set_option maxHeartbeats 1000000 in
theorem Pack_ok (e n : Int) (p : List UInt8) (w : World) (hl : p.length ≤ 60000) (h : rightB e n = true) :
    Calls Try.prog 10 #[.int .i64 e, .int .i64 n, .string ⟨p.toArray⟩] w fun x w' => x = .returned (.tuple #[.string ⟨(packL e n p).toArray⟩, .nilIface]) ∧ Q w w' := by
  obtain ⟨e0, e1, n0, n1⟩ := right_spec h
  have l1 : ∀ k, (U32 k).length = 4 := length_U32
  go_enter Try.func10, Try.ntmps10
  go_wp2_with fail
  refine (right_any _ _ _).mono ?_
  rintro x w1 ⟨rfl, rfl⟩
  rw [h]
  go_wp2_with fail
  refine (u32_any _ _ (by omega) (by omega)).mono ?_
  rintro x w1 ⟨rfl, hq1⟩
  go_wp2_with fail
  refine (u32_any _ _ (by omega) (by omega)).mono ?_
  rintro x w2 ⟨rfl, hq2⟩
  go_wp2_with fail
  refine (u32_any _ _ (by omega) (by omega)).mono ?_
  rintro x w3 ⟨rfl, hq3⟩
  go_wp2_with fail
  refine (u32_any _ _ (by omega) (by omega)).mono ?_
  rintro x w4 ⟨rfl, hq4⟩
  go_wp2_with fail
  have hH : hdL e n p = U32 p.length ++ (U32 n ++ (U32 (e / 4294967296) ++ U32 e)) := rfl
  rw [← hH]
  have HH := Lib.hid hH
  clear hH
  have lh := hdL_length e n p
  have LH := Lib.hid lh
  clear lh
  refine (Sum_any _ _ (by rw [LH.out]; omega)).mono ?_
  rintro x w5 ⟨rfl, rfl⟩
  go_wp2_with fail
  refine (More_any _ _ _ (by omega)).mono ?_
  rintro x w5 ⟨rfl, rfl⟩
  have LH := LH.out
  have c1 := (crcMore (crcSum (hdL e n p)) p).isLt
  have c2 : 0 ≤ ((crcMore (crcSum (hdL e n p)) p).toNat : Int) := by omega
  have c3 : ((crcMore (crcSum (hdL e n p)) p).toNat : Int) < 4294967296 := by omega
  go_wp2_with fail
  refine (u32_any _ _ (by omega) (by omega)).mono ?_
  rintro x w6 ⟨rfl, hq6⟩
  go_wp2_with fail
  refine (ends_any _ _ (by omega) (by omega)).mono ?_
  rintro x w7 ⟨rfl, rfl⟩
  have hE : endsN p.length = (endsN p.length).toNat := by unfold endsN; omega
  have hE2 : 24 + p.length ≤ (endsN p.length).toNat := by unfold endsN; omega
  have hE3 : (endsN p.length).toNat ≤ 24 + p.length + 63 := by unfold endsN; omega
  rw [hE]
  generalize (endsN p.length).toNat = E at hE hE2 hE3
  have HE := Lib.hid hE
  clear hE
  go_wp2_with fail
  rw [show ((E : Int) - (16 + (4 + (p.length : Int)) + 1 + 1 + 1 + 1)) = ((E - (24 + p.length) : Nat) : Int) from by omega]
  refine (Try.strings_Repeat ⟨[(0 : UInt8)].toArray⟩ (E - (24 + p.length)) _ (by omega) (by simp [ByteArray.size]; omega)).mono ?_
  rintro x w7 ⟨rfl, hq7⟩
  have hz : Lib.repeatL (ByteArray.mk [(0 : UInt8)].toArray).data.toList (E - (24 + p.length)) = zL (E - (24 + p.length)) := repeat_zero _
  rw [hz]
  have hlz : (zL (E - (24 + p.length))).length ≤ 63 := by rw [length_zL]; omega
  generalize hZ : zL (E - (24 + p.length)) = Z at hlz
  have HZ := Lib.hid hZ
  clear hZ hz
  go_wp2_with fail
  go_ret2
  refine ⟨ret_eq ?_, ((((hq1.trans hq2).trans hq3).trans hq4).trans hq6).trans hq7⟩
  have e1 : packL e n p = [1, 0, 0, 0] ++ (hdL e n p ++ (U32 ((crcMore (crcSum (hdL e n p)) p).toNat : Int) ++ (p ++ Z))) := by
    unfold packL; rw [HE.out, Int.toNat_natCast, HZ.out]
  rw [e1]
  simp
end Go.Proofs.Ytcfomkbmmpogdaa
