/- (*hash).bytes: a number as bytes. -/
import Derived.Test.YteadblkkbbhpjaaHsB
set_option linter.unusedVariables false
namespace Go.Proofs.Yteadblkkbbhpjaa
open Go Go.RowKit
/-- A row of bytes in a block of its own. -/
def RowB (w : World) (g : Nat) (b : List UInt8) : Prop := w.heap[g]? = some (.cells (arrB b) 5 (0, 0))
theorem RowB.set {w : World} {g : Nat} {b : List UInt8} (h : RowB w g b) (i : Nat) (x : UInt8) : RowB (w.setCell ⟨g, i, none⟩ (.int .u8 (x.toNat : Int))) g (b.set i x) := by
  unfold RowB
  rw [heap_setCell_same w g i _ _ _ h]
  congr 2
  unfold arrB
  rw [← Array.toList_inj]
  simp [u8V, List.map_set]
theorem RowB.cell {w : World} {g : Nat} {b : List UInt8} (h : RowB w g b) (i : Nat) (hi : i < b.length) : w.cell? ⟨g, i, none⟩ = some (.int .u8 ((gB b i).toNat : Int)) := by
  rw [cell_of_row _ _ _ _ _ _ h]
  simp [arrB, u8V, gB, List.getD, hi]
theorem RowB.frozen {w : World} {g : Nat} {b : List UInt8} (h : RowB w g b) (i : Nat) : w.frozen? ⟨g, i, none⟩ = false := frozen_of_row w g i _ _ h
theorem RowB.q {w w' : World} {g : Nat} {b : List UInt8} (h : RowB w g b) (hq : Q w w') : RowB w' g b := hq.block h
theorem RowB.new (w : World) (b : List UInt8) : RowB (w.alloc (.cells (arrB b) 5)) w.heap.size b := heap_alloc_new w _
theorem made_bytes (n : Nat) : madeCells #[Value.int .u8 0] n = arrB (List.replicate n 0) := by
  unfold madeCells arrB
  rw [← Array.toList_inj]
  apply List.ext_getElem
  · simp
  · intro i h1 h2
    simp [u8V, Nat.mod_one]
theorem mkBytes (n : Nat) (w : World) (hn : n ≤ 140737488355328) : (Instr.makeSlice 35 (.int .i64 (n : Int)) (.int .i64 (n : Int))).run Try.prog w = .ok (.slice (some ⟨w.heap.size, 0, none⟩) n n) (w.alloc (.cells (arrB (List.replicate n 0)) 5)) := by
  have hI : (Try.prog.info? 5).map (fun i => (i.zero, i.size, i.bytes)) = some (some (.int .u8 0), 1, 1) := by kernel_rfl
  obtain ⟨i, hi, hz, hsz, hby⟩ := info_parts hI
  have h := run_make w 35 5 i _ Try.underlying35 hi hz .i64 .i64 (n : Int) (n : Int) (by omega) (by omega) (by rw [hby]; omega) (by omega)
  rw [h, hsz]
  simp only [Int.toNat_natCast, Nat.mul_one]
  rw [show (Value.int IntKind.u8 0).cells = #[Value.int .u8 0] from rfl, made_bytes]
theorem mapRange_set {α : Type} (m i : Nat) (f : Nat → α) (v : α) : ((List.range m).map f).set i v = (List.range m).map fun j => if j = i then v else f j := by
  apply List.ext_getElem
  · simp
  · intro j h1 h2
    simp only [List.getElem_set, List.getElem_map, List.getElem_range]
    by_cases e : i = j
    · rw [if_pos e, if_pos e.symm]
    · rw [if_neg e, if_neg (fun h => e h.symm)]
theorem conv_row (w : World) (g : Nat) (b : List UInt8) (cap : Nat) (h : RowB w g b) : (convert 35 9 (.slice (some ⟨g, 0, none⟩) b.length cap)).run Try.prog w = .ok (.string ⟨b.toArray⟩) w := by
  refine run_convert_bytes_back (P := Try.prog) w 35 9 5 ⟨g, 0, none⟩ cap b Try.underlying35 Try.underlying5 Try.underlying9 ?_
  intro i hi
  rw [add_off, Nat.zero_add, h.cell i hi]
  simp [gB, List.getD, hi]
/-- A byte of a number. -/
def byN (n i : Nat) : UInt8 := byteOf ((n / 256 ^ i % 256 : Nat) : Int)
def bytesL (hi : Bool) (n many : Nat) : List UInt8 := if hi then (List.range many).map fun j => byN n (many - 1 - j) else (List.range many).map fun j => byN n j
theorem shr8 (n i : Nat) : (n : Int) / 2 ^ (8 * i) % 256 = ((byN n i).toNat : Int) := by
  unfold byN
  rw [byteOf_int _ (by omega) (by omega)]
  rw [show ((2 : Int) ^ (8 * i)) = ((256 ^ i : Nat) : Int) from by rw [show (256 : Nat) = 2 ^ 8 from rfl, ← Nat.pow_mul]; simp]
  omega
theorem map_zero (n : Nat) : (List.range n).map (fun _ => (0 : UInt8)) = List.replicate n 0 := by
  apply List.ext_getElem <;> simp
set_option maxRecDepth 100000 in
set_option maxHeartbeats 4000000 in
theorem bytes_lo (hb n many : Nat) (w : World) (hc : w.cell? ⟨hb, 68, none⟩ = some (.bool false)) (hn : n < 18446744073709551616) (hm : many ≤ 8) :
    Calls Try.prog 73 #[.pointer (some ⟨hb, 0, none⟩), .int .u64 (n : Int), .int .i64 (many : Int)] w fun e w' => e = .returned (.string ⟨(bytesL false n many).toArray⟩) ∧ Q w w' := by
  have hmk := fun w => mkBytes many w (by omega)
  go_enter Try.func73, Try.ntmps73
  go_wp2_with fail
  clear hmk
  have hlt0 : hb < w.heap.size := lt_of_cell hc
  have hc1 := ((Q.refl w).alloc (.cells (arrB (List.replicate many 0)) 5)).cell hc
  have hR0 := RowB.new w (List.replicate many 0)
  have HQ := Lib.hid ((Q.refl w).alloc (.cells (arrB (List.replicate many 0)) 5))
  generalize w.alloc (.cells (arrB (List.replicate many 0)) 5) = w1 at *
  have HR := Lib.hid hR0
  have HC := Lib.hid hc1
  clear hR0 hc1 hc
  go_loopw [14] (fun i wr => ∃ k : Nat, k ≤ many ∧ i = .int .i64 k ∧ RowB wr w.heap.size ((List.range many).map fun j => if j < k then byN n j else 0) ∧ Q w wr ∧ wr.cell? ⟨hb, 68, none⟩ = some (.bool false)) (fun i _ => many - (intOf i).toNat)
  case atStart => exact ⟨0, by omega, rfl, by simpa [map_zero] using HR.out, HQ.out, HC.out⟩
  case round =>
    obtain ⟨k, hk, rfl, hR, hq, hc⟩ := hrel
    by_cases hlt : k < many
    · have hd : decide (k < many) = true := by simpa using hlt
      have hcl := hR.cell k (by simpa using hlt)
      have hf := hR.frozen k
      have HRR := Lib.hid hR
      have HQQ := Lib.hid hq
      have HCC := Lib.hid hc
      clear hR hq HR HQ HC
      go_wp2_with fail
      go_roundw
      case rel =>
        refine ⟨k + 1, by omega, by go_num, ?_, Q.setNew HQQ.out (Nat.le_refl _) _, ?_⟩
        · have h1 := HRR.out.set k (byN n k)
          rw [mapRange_set] at h1
          rw [shr8]
          have e : (List.range many).map (fun j => if j < k + 1 then byN n j else 0) = (List.range many).map (fun j => if j = k then byN n k else if j < k then byN n j else 0) := by
            apply List.map_congr_left
            intro j _
            by_cases hj : j = k
            · rw [if_pos (by omega), if_pos hj, hj]
            · rw [if_neg hj]
              by_cases hj2 : j < k
              · rw [if_pos (by omega), if_pos hj2]
              · rw [if_neg (by omega), if_neg hj2]
          rw [e]
          exact h1
        · rw [World.cell?_setCell_other wr _ _ _ (by intro e; have := congrArg Addr.block e; simp only at this; omega)]
          exact HCC.out
      case measure => simp [intOf]; omega
    · obtain rfl : k = many := by omega
      have hd : decide (k < k) = false := by simp
      have e : (List.range k).map (fun j => if j < k then byN n j else 0) = bytesL false n k := by
        unfold bytesL
        rw [if_neg (by decide)]
        apply List.map_congr_left
        intro j hj
        rw [if_pos (List.mem_range.1 hj)]
      rw [e] at hR
      have hlen : (bytesL false n k).length = k := by unfold bytesL; simp
      have hcv := conv_row wr w.heap.size _ k hR
      rw [hlen] at hcv
      have HQQ := Lib.hid hq
      clear hR hq hc HR HQ HC hlen e
      go_wp2_with fail
      go_ret
      exact ⟨rfl, HQQ.out⟩
set_option maxRecDepth 100000 in
set_option maxHeartbeats 4000000 in
theorem bytes_hi (hb n many : Nat) (w : World) (hc : w.cell? ⟨hb, 68, none⟩ = some (.bool true)) (hn : n < 18446744073709551616) (hm : many ≤ 8) :
    Calls Try.prog 73 #[.pointer (some ⟨hb, 0, none⟩), .int .u64 (n : Int), .int .i64 (many : Int)] w fun e w' => e = .returned (.string ⟨(bytesL true n many).toArray⟩) ∧ Q w w' := by
  have hmk := fun w => mkBytes many w (by omega)
  go_enter Try.func73, Try.ntmps73
  go_wp2_with fail
  clear hmk
  have hlt0 : hb < w.heap.size := lt_of_cell hc
  have hc1 := ((Q.refl w).alloc (.cells (arrB (List.replicate many 0)) 5)).cell hc
  have hR0 := RowB.new w (List.replicate many 0)
  have HQ := Lib.hid ((Q.refl w).alloc (.cells (arrB (List.replicate many 0)) 5))
  generalize w.alloc (.cells (arrB (List.replicate many 0)) 5) = w1 at *
  have HR := Lib.hid hR0
  have HC := Lib.hid hc1
  clear hR0 hc1 hc
  go_loopw [14] (fun i wr => ∃ k : Nat, k ≤ many ∧ i = .int .i64 k ∧ RowB wr w.heap.size ((List.range many).map fun j => if many - k ≤ j then byN n (many - 1 - j) else 0) ∧ Q w wr ∧ wr.cell? ⟨hb, 68, none⟩ = some (.bool true)) (fun i _ => many - (intOf i).toNat)
  case atStart => exact ⟨0, by omega, rfl, by rw [show (List.range many).map (fun j => if many - 0 ≤ j then byN n (many - 1 - j) else 0) = List.replicate many 0 from by rw [← map_zero]; exact List.map_congr_left fun j hj => if_neg (by have := List.mem_range.1 hj; omega)]; exact HR.out, HQ.out, HC.out⟩
  case round =>
    obtain ⟨k, hk, rfl, hR, hq, hc⟩ := hrel
    by_cases hlt : k < many
    · have hd : decide (k < many) = true := by simpa using hlt
      have hcl := hR.cell (many - 1 - k) (by simp; omega)
      have hf := hR.frozen (many - 1 - k)
      have HRR := Lib.hid hR
      have HQQ := Lib.hid hq
      have HCC := Lib.hid hc
      clear hR hq HR HQ HC
      go_wp2_with fail
      go_roundw
      case rel =>
        refine ⟨k + 1, by omega, by go_num, ?_, Q.setNew HQQ.out (Nat.le_refl _) _, ?_⟩
        · have h1 := HRR.out.set (many - 1 - k) (byN n k)
          rw [mapRange_set] at h1
          rw [shr8]
          have e : (List.range many).map (fun j => if many - (k + 1) ≤ j then byN n (many - 1 - j) else 0) = (List.range many).map (fun j => if j = many - 1 - k then byN n k else if many - k ≤ j then byN n (many - 1 - j) else 0) := by
            apply List.map_congr_left
            intro j hj0
            have hjm := List.mem_range.1 hj0
            by_cases hj : j = many - 1 - k
            · rw [if_pos (by omega), if_pos hj, hj, show many - 1 - (many - 1 - k) = k from by omega]
            · rw [if_neg hj]
              by_cases hj2 : many - k ≤ j
              · rw [if_pos (by omega), if_pos hj2]
              · rw [if_neg (by omega), if_neg hj2]
          rw [e]
          exact h1
        · rw [World.cell?_setCell_other wr _ _ _ (by intro e; have := congrArg Addr.block e; simp only at this; omega)]
          exact HCC.out
      case measure => simp [intOf]; omega
    · obtain rfl : k = many := by omega
      have hd : decide (k < k) = false := by simp
      have e : (List.range k).map (fun j => if k - k ≤ j then byN n (k - 1 - j) else 0) = bytesL true n k := by
        unfold bytesL
        rw [if_pos rfl]
        apply List.map_congr_left
        intro j hj
        rw [if_pos (by omega)]
      rw [e] at hR
      have hlen : (bytesL true n k).length = k := by unfold bytesL; simp
      have hcv := conv_row wr w.heap.size _ k hR
      rw [hlen] at hcv
      have HQQ := Lib.hid hq
      clear hR hq hc HR HQ HC hlen e
      go_wp2_with fail
      go_ret
      exact ⟨rfl, HQQ.out⟩
theorem bytes_any (hi : Bool) (hb n many : Nat) (w : World) (hc : w.cell? ⟨hb, 68, none⟩ = some (.bool hi)) (hn : n < 18446744073709551616) (hm : many ≤ 8) :
    Calls Try.prog 73 #[.pointer (some ⟨hb, 0, none⟩), .int .u64 (n : Int), .int .i64 (many : Int)] w fun e w' => e = .returned (.string ⟨(bytesL hi n many).toArray⟩) ∧ Q w w' := by
  cases hi
  · exact bytes_lo hb n many w hc hn hm
  · exact bytes_hi hb n many w hc hn hm
theorem bytes8_any (hi : Bool) (hb n : Nat) (w : World) (hc : w.cell? ⟨hb, 68, none⟩ = some (.bool hi)) (hn : n < 18446744073709551616) :
    Calls Try.prog 73 #[.pointer (some ⟨hb, 0, none⟩), .int .u64 (n : Int), .int .i64 8] w fun e w' => e = .returned (.string ⟨(bytesL hi n 8).toArray⟩) ∧ Q w w' := bytes_any hi hb n 8 w hc hn (by decide)
theorem bytes4_any (hi : Bool) (hb n : Nat) (w : World) (hc : w.cell? ⟨hb, 68, none⟩ = some (.bool hi)) (hn : n < 18446744073709551616) :
    Calls Try.prog 73 #[.pointer (some ⟨hb, 0, none⟩), .int .u64 (n : Int), .int .i64 4] w fun e w' => e = .returned (.string ⟨(bytesL hi n 4).toArray⟩) ∧ Q w w' := bytes_any hi hb n 4 w hc hn (by decide)
end Go.Proofs.Yteadblkkbbhpjaa
