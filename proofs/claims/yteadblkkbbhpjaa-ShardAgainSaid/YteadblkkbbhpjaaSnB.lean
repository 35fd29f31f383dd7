/- frame.List. -/
import Derived.Test.YteadblkkbbhpjaaSnA
import Derived.Test.YteadblkkbbhpjaaSnE
import Derived.Test.YteadblkkbbhpjaaStrs
import Derived.Outline
set_option linter.unusedVariables false
namespace Go.Proofs.Yteadblkkbbhpjaa
open Go Go.RowKit

def szL (ls : List (List UInt8)) : Nat := (ls.map fun s => 4 + s.length).sum
def itL (ls : List (List UInt8)) : List UInt8 := ls.flatMap fun s => U32 s.length ++ s
def listL (ls : List (List UInt8)) : List UInt8 := U32 ls.length ++ itL ls
theorem take_snocL (l : List (List UInt8)) (k : Nat) (h : k < l.length) : l.take (k + 1) = l.take k ++ [gL l k] := by
  rw [List.take_succ_eq_append_getElem h]; simp [gL, List.getD, h]
theorem szL_snoc (ls : List (List UInt8)) (s : List UInt8) : szL (ls ++ [s]) = szL ls + (4 + s.length) := by unfold szL; simp
theorem itL_snoc (ls : List (List UInt8)) (s : List UInt8) : itL (ls ++ [s]) = itL ls ++ (U32 s.length ++ s) := by unfold itL; simp
theorem itL_length (ls : List (List UInt8)) : (itL ls).length = szL ls := by
  unfold itL szL; induction ls with
  | nil => rfl
  | cons a t ih => simp only [List.flatMap_cons, List.length_append, length_U32, List.map_cons, List.sum_cons, ih]
theorem szL_take (ls : List (List UInt8)) (k : Nat) : szL (ls.take k) ≤ szL ls := by
  have h : szL ls = szL (ls.take k) + szL (ls.drop k) := by unfold szL; rw [← List.sum_append, ← List.map_append, List.take_append_drop]
  omega
theorem szL_len (ls : List (List UInt8)) : 4 * ls.length ≤ szL ls := by
  unfold szL; induction ls with
  | nil => simp
  | cons a t ih => simp only [List.map_cons, List.sum_cons, List.length_cons]; omega

set_option maxHeartbeats 2000000 in
theorem List_ok (A : Option Addr) (n cap : Nat) (ls : List (List UInt8)) (w : World) (h : StrsAt w A n ls) (hs : 4 + szL ls ≤ 60000) (hcap : cap ≤ 9223372036854775807) :
    Calls Try.prog 64 #[.slice A n cap] w fun e w' => e = .returned (.tuple #[.string ⟨(listL ls).toArray⟩, .nilIface]) ∧ Q w w' := by
  have hn := h.1
  have hln := szL_len ls
  go_enter Try.func64, Try.ntmps64
  go_wp2
  go_loop [4, 6, 12] (fun z _ i => ∃ k : Nat, k ≤ n ∧ i = .int .i64 k ∧ z = .int .i64 (4 + szL (ls.take k) : Nat)) (fun _ _ i => n - (intOf i).toNat)
  case atStart => exact ⟨0, by omega, rfl, by simp [szL]⟩
  case round =>
    obtain ⟨k, hk, rfl, rfl⟩ := hrel
    by_cases hlt : k < n
    · obtain ⟨ad, rfl, hc⟩ := h.at hlt
      have hsn := szL_snoc (ls.take k) (gL ls k)
      have htk := szL_take ls (k + 1)
      rw [take_snocL ls k (by omega), hsn] at htk
      have HS : Hid (szL (ls.take (k + 1)) = szL (ls.take k) + (4 + (gL ls k).length)) := by rw [take_snocL ls k (by omega)]; exact hsn
      clear hsn
      go_wp2
      go_round
      case rel => exact ⟨k + 1, by omega, by go_num, by rw [HS.out]; go_num⟩
      case measure => simp [intOf]; omega
    · obtain rfl : k = n := by omega
      clear hk
      go_wp2_with fail
      refine (u32_any _ _ (by omega) (by omega)).mono ?_
      rintro e w1 ⟨rfl, hq1⟩
      have hB := (bldNew w w (Nat.le_refl _)).q hq1
      have hsz : w.heap.size ≤ w1.heap.size := by have := hq1.size; simp at this; omega
      have hq := ((Q.refl w).alloc _).trans hq1
      clear hq1
      go_wp2_with fail
      refine (bldWrite _ _ _ _ hB hsz (by simp [length_U32])).mono ?_
      rintro e w2 ⟨rfl, hB, hb2⟩
      have hq := hq.below hb2
      clear hb2 hsz
      go_wp2_with fail
      go_loopw [31] (fun i wr => ∃ k : Nat, k ≤ ls.length ∧ i = .int .i64 k ∧ BldAt w wr w.heap.size (U32 ls.length ++ itL (ls.take k)) ∧ Q w wr) (fun i _ => ls.length - (intOf i).toNat)
      case atStart => exact ⟨0, by omega, rfl, by simpa [itL] using hB, hq⟩
      case round =>
        obtain ⟨k, hk, rfl, hB, hq⟩ := hrel
        by_cases hlt : k < ls.length
        · obtain ⟨ad, rfl, hc⟩ := (h.q hq).at (by omega : k < _)
          have htk := szL_take ls (k + 1)
          rw [take_snocL ls k (by omega), szL_snoc] at htk
          have hle := itL_length (ls.take k)
          have HS : Hid (itL (ls.take (k + 1)) = itL (ls.take k) ++ (U32 (gL ls k).length ++ gL ls k)) := by rw [take_snocL ls k (by omega)]; exact itL_snoc _ _
          have HL := Lib.hid hle
          clear hle
          go_wp2_with fail
          refine (u32_any _ _ (by omega) (by omega)).mono ?_
          rintro e w3 ⟨rfl, hq1⟩
          have hB := hB.q hq1
          have hq := hq.trans hq1
          clear hq1
          go_wp2_with fail
          refine (bldWrite _ _ _ _ hB hq.size (by have := HL.out; simp [length_U32]; omega)).mono ?_
          rintro e w4 ⟨rfl, hB, hb4⟩
          have hq := hq.below hb4
          clear hb4
          go_wp2_with fail
          refine (bldWrite _ _ _ _ hB hq.size (by have := HL.out; simp [length_U32]; omega)).mono ?_
          rintro e w5 ⟨rfl, hB, hb5⟩
          have hq := hq.below hb5
          clear hb5
          go_wp2_with fail
          go_roundw
          case rel => exact ⟨k + 1, by omega, by go_num, by rw [HS.out]; simpa using hB, hq⟩
          case measure => simp [intOf]; omega
        · obtain rfl : k = ls.length := by omega
          go_wp2_with fail
          refine (bldString _ _ _ hB hq.size).mono ?_
          rintro e w6 ⟨rfl, hb6⟩
          have hq := hq.below hb6
          go_wp2_with fail
          go_ret2
          refine ⟨ret_eq ?_, hq⟩
          simp [listL]

set_option maxHeartbeats 2000000 in
theorem List_bad (A : Option Addr) (n cap : Nat) (ls : List (List UInt8)) (w : World) (h : StrsAt w A n ls) (hs : 60000 < 4 + szL ls) (hcap : cap ≤ 9223372036854775807) (hnc : n ≤ cap)
    (hlen : ∀ s ∈ ls, s.length ≤ 140737488355328) :
    Calls Try.prog 64 #[.slice A n cap] w fun e w' => ∃ ev, e = .returned (.tuple #[.string ⟨#[]⟩, ev]) ∧ ErrIs w' ev 1 0 ∧ Q w w' := by
  have hn := h.1
  go_enter Try.func64, Try.ntmps64
  go_wp2
  go_loop [4, 6, 12] (fun z _ i => ∃ k : Nat, k ≤ n ∧ i = .int .i64 k ∧ z = .int .i64 (4 + szL (ls.take k) : Nat) ∧ 4 + szL (ls.take k) ≤ 60000) (fun _ _ i => n - (intOf i).toNat)
  case atStart => exact ⟨0, by omega, rfl, by simp [szL], by simp [szL]⟩
  case round =>
    obtain ⟨k, hk, rfl, rfl, hz⟩ := hrel
    have hlt : k < n := by
      rcases Nat.lt_or_ge k n with h1 | h1
      · exact h1
      · rw [List.take_of_length_le (by omega)] at hz; omega
    obtain ⟨ad, rfl, hc⟩ := h.at hlt
    have hlk : (gL ls k).length ≤ 140737488355328 := hlen _ (by unfold gL; simp [List.getD, hn ▸ hlt])
    have hsn := szL_snoc (ls.take k) (gL ls k)
    rw [← take_snocL ls k (by omega)] at hsn
    have HS := Lib.hid hsn
    clear hsn
    by_cases hbig : 60000 < 4 + (szL (ls.take k) + (4 + (gL ls k).length))
    · go_wp2_with fail
      refine (fault_any _ _ _).mono ?_
      rintro e w1 ⟨⟨b, rfl, hf⟩, hq1⟩
      go_wp2_with fail
      go_ret2
      exact ⟨_, rfl, .inr ⟨by decide, b, rfl, hf⟩, hq1⟩
    · go_wp2
      go_round
      case rel => exact ⟨k + 1, by omega, by go_num, by rw [HS.out]; go_num, by rw [HS.out]; omega⟩
      case measure => simp [intOf]; omega
end Go.Proofs.Yteadblkkbbhpjaa
