/- HMAC by SHA-256. -/
import Derived.Test.YteadblkkbbhpjaaHsE
import Derived.Deep.DeepCutAuto
set_option linter.unusedVariables false
namespace Go.Proofs.Yteadblkkbbhpjaa
open Go Go.RowKit
theorem wrap8_lt (x : UInt8) : IntKind.u8.wrap (x.toNat : Int) = (x.toNat : Int) := by
  rw [IntKind.wrap_u8]; have := x.toNat_lt; omega
theorem ofInt8 (x : UInt8) : BitVec.ofInt 8 (x.toNat : Int) = x.toBitVec := by
  rw [BitVec.ofInt_natCast]; exact BitVec.eq_of_toNat_eq (by simp)
def xb (x y : UInt8) : UInt8 := x ^^^ y
theorem xor8 (x y : UInt8) : bits .xor .u8 (x.toNat : Int) (y.toNat : Int) = ((xb x y).toNat : Int) := by
  show IntKind.u8.wrap ((BitVec.ofInt 8 _ ^^^ BitVec.ofInt 8 _).toNat : Int) = _
  rw [ofInt8, ofInt8, ← UInt8.toBitVec_xor]
  exact wrap8_lt _
def xo8 (x : UInt8) (b : List UInt8) : List UInt8 := b.map fun y => xb y x
theorem xo8_length (x : UInt8) (b : List UInt8) : (xo8 x b).length = b.length := by simp [xo8]
theorem BytAt.set {w : World} {g : Nat} {b : List UInt8} (h : BytAt w g b) (i : Nat) (x : UInt8) : BytAt (w.setCell ⟨g, i, none⟩ (.int .u8 (x.toNat : Int))) g (b.set i x) := by
  refine ⟨?_, by rw [List.length_set]; exact h.2⟩
  rw [heap_setCell_same w g i _ _ _ h.1]
  congr 2
  unfold arrB
  rw [← Array.toList_inj]
  simp [u8V, List.map_set]
theorem BytAt.frozen {w : World} {g : Nat} {b : List UInt8} (h : BytAt w g b) (i : Nat) : w.frozen? ⟨g, i, none⟩ = false := frozen_of_row w g i _ _ h.1
theorem arrB_all (b : List UInt8) : (arrB b).all (·.oneCell') = true := by
  rw [Array.all_eq_true_iff_forall_mem]
  intro v hv
  have : v ∈ b.map u8V := by simpa [arrB] using hv
  obtain ⟨x, _, rfl⟩ := List.mem_map.1 this
  rfl
theorem arrB_size (b : List UInt8) : (arrB b).size = b.length := by simp [arrB]
theorem infoB64 : (Try.prog.info? 77).map (·.size) = some 64 := by kernel_rfl
theorem conv_64 (w : World) (g : Nat) (b : List UInt8) (cap : Nat) (h : BytAt w g b) : (convert 35 9 (.slice (some ⟨g, 0, none⟩) 64 cap)).run Try.prog w = .ok (.string ⟨b.toArray⟩) w := by
  rw [← h.2]
  refine run_convert_bytes_back (P := Try.prog) w 35 9 5 ⟨g, 0, none⟩ cap b Try.underlying35 Try.underlying5 Try.underlying9 ?_
  intro i hi
  rw [add_off, Nat.zero_add, h.cell i (by rw [h.2] at hi; exact hi)]
  simp [gB, List.getD, hi]
theorem pad_start (w : World) (b : List UInt8) (hb : b.length = 64) (cs : Array Value) :
    ∃ w3, w3 = (w.alloc (.cells cs 77)).setRow w.heap.size (arrB b) ∧ BytAt w3 w.heap.size b ∧ Q w w3 := by
  refine ⟨_, rfl, ⟨?_, hb⟩, Q.setRow ((Q.refl w).alloc _) (Nat.le_refl _) _⟩
  simp only [World.setRow, Array.getElem?_modify, if_true]
  rw [heap_alloc_new]
  rfl
theorem xo_step (x : UInt8) (b : List UInt8) (k : Nat) (h : k < b.length) : ((xo8 x b).take k ++ b.drop k).set k (xb (gB b k) x) = (xo8 x b).take (k + 1) ++ b.drop (k + 1) := by
  have hk : ((xo8 x b).take k).length = k := by rw [List.length_take, xo8_length]; omega
  rw [List.set_append, if_neg (by omega), hk, Nat.sub_self, List.drop_eq_getElem_cons h, List.set_cons_zero]
  rw [List.take_succ_eq_append_getElem (by rw [xo8_length]; exact h)]
  simp [xo8, gB, List.getD, h]
theorem xo_at (x : UInt8) (b : List UInt8) (k : Nat) (h : k < b.length) : gB ((xo8 x b).take k ++ b.drop k) k = gB b k := by
  have hk : ((xo8 x b).take k).length = k := by rw [List.length_take, xo8_length]; omega
  unfold gB
  simp only [List.getD]
  rw [List.getElem?_append_right (by omega), hk, Nat.sub_self, List.getElem?_drop]
  rfl
set_option maxRecDepth 100000 in
set_option maxHeartbeats 4000000 in
theorem pad_any (x : UInt8) (n : Int) (hn : n = (x.toNat : Int)) (g : Nat) (b : List UInt8) (w : World) (h : BytAt w g b) :
    Calls Try.prog 51 #[.int .u8 n, .pointer (some ⟨g, 0, none⟩)] w fun e w' => e = .returned (.string ⟨(xo8 x b).toArray⟩) ∧ Q w w' := by
  subst hn
  have HB := Lib.hid h
  clear h
  go_enter Try.func51, Try.ntmps51
  iterate 11 go_step
  refine wpList_load_row rfl 77 (.tmp 1) rfl g rfl _ _ _ _ HB.out.1 Try.underlying77 rfl (by rw [arrB_size, HB.out.2]; exact infoB64) ?_
  iterate 3 go_step
  refine wpList_store_row rfl 77 (.tmp 4) (.tmp 6) rfl w.heap.size (arrB b) rfl rfl 77 _ (heap_alloc_new w _) (by rw [arrB_size, HB.out.2]; exact infoB64) (by rw [arrB_size, HB.out.2]; rfl) (arrB_all b) ?_
  obtain ⟨w3, hw3, hB3, hq3⟩ := pad_start w b HB.out.2 _
  rw [← hw3]
  clear hw3
  have HL := Lib.hid HB.out.2
  have HB3 := Lib.hid hB3
  have HQ3 := Lib.hid hq3
  clear hB3 hq3
  go_wp2_with fail
  go_loopw [7] (fun i wr => ∃ k : Nat, k ≤ 64 ∧ i = .int .i64 k ∧ BytAt wr w.heap.size ((xo8 x b).take k ++ b.drop k) ∧ Q w wr) (fun i _ => 64 - (intOf i).toNat)
  case atStart => exact ⟨0, by omega, rfl, HB3.out, HQ3.out⟩
  case round =>
    obtain ⟨k, hk, rfl, hB, hq⟩ := hrel
    by_cases hlt : k < 64
    · have hd : decide ((k : Int) < 64) = true := by simp; omega
      have hc := hB.cell k hlt
      rw [xo_at x b k (by rw [HL.out]; exact hlt)] at hc
      have hf := hB.frozen k
      have hx := xor8 (gB b k) x
      have HBB := Lib.hid hB
      have HQ := Lib.hid hq
      clear hB hq
      go_wp2_with fail
      go_roundw
      case rel =>
        refine ⟨k + 1, by omega, by go_num, ?_, Q.setNew HQ.out (Nat.le_refl _) _⟩
        rw [← xo_step x b k (by rw [HL.out]; exact hlt)]
        exact BytAt.set HBB.out k _
      case measure => simp [intOf]; omega
    · obtain rfl : k = 64 := by omega
      have hd : decide (((64 : Nat) : Int) < 64) = false := by simp
      rw [List.take_of_length_le (by rw [xo8_length, HL.out]; exact Nat.le_refl _), List.drop_of_length_le (by rw [HL.out]; exact Nat.le_refl _), List.append_nil] at hB
      have hcv := conv_64 wr w.heap.size (xo8 x b) 64 hB
      have HQ := Lib.hid hq
      clear hq hB
      go_wp2_with fail
      go_ret
      exact ⟨rfl, HQ.out⟩
/-- A key as a block. -/
def keyB (k : List UInt8) : List UInt8 := k ++ List.replicate (64 - k.length) 0
def keyOf (key : List UInt8) : List UInt8 := if 64 < key.length then sha key else key
def mac (key s : List UInt8) : List UInt8 := sha (xo8 0x5c (keyB (keyOf key)) ++ sha (xo8 0x36 (keyB (keyOf key)) ++ s))
theorem sha_length (l : List UInt8) : (sha l).length = 32 := sumA_length _ _
theorem keyB_length (k : List UInt8) (h : k.length ≤ 64) : (keyB k).length = 64 := by unfold keyB; simp; omega
theorem key_row' (n : Nat) (k : List UInt8) : ((arrB (List.replicate n 0)).toList.take 0 ++ Lib.byteCells k ++ (arrB (List.replicate n 0)).toList.drop (0 + k.length)).toArray = arrB (k ++ List.replicate (n - k.length) 0) := by
  unfold arrB Lib.byteCells
  rw [← Array.toList_inj]
  simp [u8V]
theorem key_row (k : List UInt8) : ((arrB (List.replicate 64 0)).toList.take 0 ++ Lib.byteCells k ++ (arrB (List.replicate 64 0)).toList.drop (0 + k.length)).toArray = arrB (keyB k) := key_row' 64 k
theorem mac_start (w w1 : World) (g : Nat) (k : List UInt8) (hk : k.length ≤ 64) (hg : w.heap.size ≤ g) (h : BytAt w1 g (List.replicate 64 0)) (hq : Q w w1) :
    ∃ w3, w3 = w1.setRow g ((arrB (List.replicate 64 0)).toList.take 0 ++ Lib.byteCells k ++ (arrB (List.replicate 64 0)).toList.drop (0 + k.length)).toArray ∧ BytAt w3 g (keyB k) ∧ Q w w3 := by
  refine ⟨_, rfl, ⟨?_, keyB_length k hk⟩, Q.setRow hq hg _⟩
  simp only [World.setRow, Array.getElem?_modify, if_true]
  rw [h.1, key_row]
  rfl
theorem xor8_length (x : UInt8) (k : List UInt8) (h : k.length ≤ 64) : (xo8 x (keyB k)).length = 64 := by rw [xo8_length, keyB_length k h]
theorem slice64a (w : World) (g : Nat) : (Instr.sliceAt 77 (.pointer (some ⟨g, 0, none⟩)) none none none).run Try.prog w = .ok (.slice (some ⟨g, 0, none⟩) 64 64) w := by
  kernel_rfl
set_option maxRecDepth 100000 in
set_option maxHeartbeats 4000000 in
theorem MAC_tail (k key s : List UInt8) (w : World) (hk : k.length ≤ 64) (hs : s.length ≤ 9223372036854775000) (hkey : key.length ≤ 9223372036854775000) (hkk : keyOf key = k) :
    Calls Try.prog 25 #[.string ⟨key.toArray⟩, .string ⟨s.toArray⟩] w fun e w' => e = .returned (.string ⟨(mac key s).toArray⟩) ∧ Q w w' := by
  have hm : mac key s = sha (xo8 0x5c (keyB k) ++ sha (xo8 0x36 (keyB k) ++ s)) := by unfold mac; rw [hkk]
  have HM := Lib.hid hm
  clear hm
  go_enter Try.func25, Try.ntmps25
  go_upto_region 2 with (fail)
  obtain ⟨w1, hw1, hB1, hq1⟩ : ∃ w1, w1 = w.alloc (.cells (arrB (List.replicate 64 0)) 77) ∧ BytAt w1 w.heap.size (List.replicate 64 0) ∧ Q w w1 := ⟨_, rfl, ⟨heap_alloc_new w _, by simp⟩, (Q.refl w).alloc _⟩
  refine Eq.mp (congrArg _ hw1) ?_
  clear hw1
  have HB := Lib.hid hB1
  have HQ := Lib.hid hq1
  clear hB1 hq1
  have HK := Lib.hid hkk
  clear hkk
  go_upto_if 9 with (fail)
  go_cut [0] (fun s0 wx => s0 = .string ⟨k.toArray⟩ ∧ BytAt wx w.heap.size (List.replicate 64 0) ∧ Q w wx)
  case first =>
    by_cases hb : 64 < key.length
    · have hd : decide ((64 : Int) < (key.length : Int)) = true := by simp; omega
      have hd2 : decide (64 < key.length) = true := by simp; omega
      have hkk : sha key = k := by rw [← HK.out]; unfold keyOf; rw [if_pos hb]
      have HK2 := Lib.hid hkk
      clear hkk
      go_wp2_with fail
      with_reducible refine (Sum256_any key _ (by omega)).mono ?_
      rintro e w2 ⟨rfl, hq2⟩
      go_wp2_with fail
      go_meet
      case rel => exact ⟨by rw [HK2.out], ⟨hq2.block HB.out.1, HB.out.2⟩, HQ.out.trans hq2⟩
    · have hd : decide ((64 : Int) < (key.length : Int)) = false := by simp; omega
      have hd2 : decide (64 < key.length) = false := by simp; omega
      have hkk : key = k := by rw [← HK.out]; unfold keyOf; rw [if_neg hb]
      have HK2 := Lib.hid hkk
      clear hkk
      go_wp2_with fail
      go_meet
      case rel => exact ⟨by rw [HK2.out], HB.out, HQ.out⟩
  case rest =>
    obtain ⟨rfl, hBB, hQQ⟩ := hcut
    have HBB := Lib.hid hBB
    have HQQ := Lib.hid hQQ
    clear hBB hQQ HB HQ
    have hsl := fun w' : World => slice64a w' w.heap.size
    go_upto_region 4 with (fail)
    iterate 7 go_step
    refine wpList_copy_str rfl (.tmp 12) (.tmp 13) 35 9 5 rfl Try.underlying35 info5 w.heap.size 0 64 64 rfl k rfl _ 77 HBB.out.1 k (List.take_of_length_le hk) (by rw [arrB_size, List.length_replicate]; omega) ?_
    clear hsl
    obtain ⟨w3, hw3, hB3, hq3⟩ := mac_start w wc w.heap.size k hk (Nat.le_refl _) HBB.out HQQ.out
    rw [← hw3]
    clear hw3
    have hl5 := xor8_length 0x5c k hk
    have hl3 := xor8_length 0x36 k hk
    have HB3 := Lib.hid hB3
    have HQ3 := Lib.hid hq3
    have HL5 := Lib.hid hl5
    have HL3 := Lib.hid hl3
    clear hB3 hq3 HBB HQQ hl5 hl3
    go_wp2_with fail
    with_reducible refine (pad_any 0x5c 92 rfl w.heap.size (keyB k) _ HB3.out).mono ?_
    rintro e w4 ⟨rfl, hq4⟩
    generalize hX : xo8 0x5c (keyB k) = X at *
    have hXl : X.length ≤ 64 := by rw [HL5.out]; omega
    have HX := Lib.hid hX
    have HB4 := Lib.hid (show BytAt w4 w.heap.size (keyB k) from ⟨hq4.block HB3.out.1, HB3.out.2⟩)
    have HQ4 := Lib.hid (HQ3.out.trans hq4)
    clear hX hq4 HB3 HQ3
    go_wp2_with fail
    with_reducible refine (pad_any 0x36 54 rfl w.heap.size (keyB k) _ HB4.out).mono ?_
    rintro e w5 ⟨rfl, hq5⟩
    generalize hY : xo8 0x36 (keyB k) = Y at *
    have hYl : Y.length ≤ 64 := by rw [HL3.out]; omega
    have HY := Lib.hid hY
    have HQ5 := Lib.hid (HQ4.out.trans hq5)
    clear hY hq5 HB4 HQ4
    go_wp2_with fail
    with_reducible refine (Sum256_any (Y ++ s) _ (by simp; omega)).mono ?_
    rintro e w6 ⟨rfl, hq6⟩
    generalize hZ : sha (Y ++ s) = Z at *
    have hZl : Z.length ≤ 32 := by rw [← hZ, sha_length]; omega
    have HZ := Lib.hid hZ
    have HQ6 := Lib.hid (HQ5.out.trans hq6)
    clear hZ hq6 HQ5
    go_wp2_with fail
    with_reducible refine (Sum256_any (X ++ Z) _ (by simp; omega)).mono ?_
    rintro e w7 ⟨rfl, hq7⟩
    go_wp2_with fail
    go_ret
    exact ⟨by rw [HM.out]; rfl, HQ6.out.trans hq7⟩
theorem MAC_any (key s : List UInt8) (w : World) (hs : s.length ≤ 140737488355328) (hkey : key.length ≤ 140737488355328) :
    Calls Try.prog 25 #[.string ⟨key.toArray⟩, .string ⟨s.toArray⟩] w fun e w' => e = .returned (.string ⟨(mac key s).toArray⟩) ∧ Q w w' :=
  MAC_tail (keyOf key) key s w (by unfold keyOf; split; · rw [sha_length]; omega
                                   · omega) (by omega) (by omega) rfl
end Go.Proofs.Yteadblkkbbhpjaa
