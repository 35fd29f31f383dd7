/- Texts of this proof, laid into one: RfB, RfC, RfK, RfD, RfE. -/
import Derived.Test.YtmmoenbmgcplkaaGreatDoorMy19
import Derived.Deep.MidRow
import Derived.Deep.RegionHeld3
import Derived.Deep.DeepCutAuto
set_option linter.unusedVariables false
namespace Go.Proofs.YtmmoenbmgcplkaaGreatDoor
open Go Go.RowKit
def A8At (w : World) (g : Nat) (l : List B32) : Prop := w.heap[g]? = some (.cells (arrM l) 124 (0, 0)) ∧ l.length = 8
theorem A8At.lt {w : World} {g : Nat} {l : List B32} (h : A8At w g l) : g < w.heap.size := lt_of_heap h.1
theorem A8At.cell {w : World} {g : Nat} {l : List B32} (h : A8At w g l) (i : Nat) (hi : i < 8) : w.cell? ⟨g, i, none⟩ = some (.int .u32 ((gW l i).toNat : Int)) := by
  rw [cell_of_row _ _ _ _ _ _ h.1]
  have h2 := h.2
  simp [arrM, u32V, gW, List.getD, h2, hi]
theorem A8At.frozen {w : World} {g : Nat} {l : List B32} (h : A8At w g l) (i : Nat) : w.frozen? ⟨g, i, none⟩ = false := frozen_of_row w g i _ _ h.1
theorem A8At.set {w : World} {g : Nat} {l : List B32} (h : A8At w g l) (i : Nat) (x : B32) : A8At (w.setCell ⟨g, i, none⟩ (.int .u32 (x.toNat : Int))) g (l.set i x) := by
  refine ⟨?_, by rw [List.length_set]; exact h.2⟩
  rw [heap_setCell_same w g i _ _ _ h.1]
  congr 2
  unfold arrM
  rw [← Array.toList_inj]
  simp [u32V, List.map_set]
theorem A8At.x {w w' : World} {g : Nat} {l : List B32} {S : List Nat} (h : A8At w g l) (hg : GX S w w') (hS : g ∉ S) : A8At w' g l := ⟨hg.heap hS h.1, h.2⟩
theorem ArrAt.x {w w' : World} {g : Nat} {l : List B32} {S : List Nat} (h : ArrAt w g l) (hg : GX S w w') (hS : g ∉ S) : ArrAt w' g l := ⟨hg.heap hS h.1, h.2⟩
theorem info8 : (Tryz.prog.info? 124).map (·.size) = some 8 := by kernel_rfl
theorem arrM_size (l : List B32) : (arrM l).size = l.length := by simp [arrM]
def wordsA : List B32 := start256.list ++ k256
def WordsAt (w : World) (g : Nat) : Prop := w.heap[g]? = some (.cells (arrM wordsA) 127 (0, 0))
theorem WordsAt.k {w : World} {g : Nat} (h : WordsAt w g) (i : Nat) (hi : i < 64) : w.cell? ⟨g, 8 + i, none⟩ = some (.int .u32 ((gW k256 i).toNat : Int)) := by
  rw [cell_of_row _ _ _ _ _ _ h]
  have hl : k256.length = 64 := rfl
  have h8 : start256.list.length = 8 := rfl
  simp only [arrM, wordsA, List.getElem?_toArray, List.getElem?_map]
  rw [List.getElem?_append_right (by omega), h8, show 8 + i - 8 = i from by omega]
  simp [u32V, gW, List.getD, hl, hi]
theorem words_h {w : World} {g : Nat} (h : WordsAt w g) : w.rangeAt g 0 (start256.list.map u32V) := by
  intro j v hj
  have hj8 : j < 8 := by have := (List.getElem?_eq_some_iff.1 hj).1; simpa [St8.list] using this
  rw [Nat.zero_add, cell_of_row _ _ _ _ _ _ h]
  simp only [arrM, wordsA, List.getElem?_toArray, List.map_append]
  rw [List.getElem?_append_left (by simp [St8.list]; omega)]
  exact hj
theorem a8_row {w : World} {g : Nat} {cs : Array Value} (h : w.heap[g]? = some (.cells cs 124 (0, 0))) (l : List B32) (hl : l.length = 8) : A8At (w.setRow g (arrM l)) g l := by
  refine ⟨?_, hl⟩
  simp only [World.setRow, Array.getElem?_modify, if_true]
  rw [h]
  rfl
theorem h_start (w : World) (cs : Array Value) (l : List B32) (hl : l.length = 8) :
    ∃ w3, w3 = (w.alloc (.cells cs 124)).setRow w.heap.size (arrM l) ∧ w3.heap.size = w.heap.size + 1 ∧ A8At w3 w.heap.size l ∧ Q w w3 := by
  refine ⟨_, rfl, by simp, ⟨?_, hl⟩, Q.setRow ((Q.refl w).alloc _) (Nat.le_refl _) _⟩
  simp only [World.setRow, Array.getElem?_modify, if_true]
  rw [heap_alloc_new]
  rfl
theorem gB_sub (l : List UInt8) (i j k : Nat) (h : i + k < j) : gB (sub l i j) k = gB l (i + k) := by
  unfold gB sub
  simp only [List.getD, List.getElem?_drop]
  rw [List.getElem?_take, if_pos h]
theorem word_lo (P : List UInt8) (m k : Nat) (hk : k < 16) : be (gB P (64 * m + 4 * k)) (gB P (64 * m + 4 * k + 1)) (gB P (64 * m + 4 * k + 2)) (gB P (64 * m + 4 * k + 3)) =
    wordN (sub P (64 * m) (64 * m + 64)) (wordsN (sub P (64 * m) (64 * m + 64)) k) k := by
  unfold wordN
  rw [if_pos hk, gB_sub _ _ _ _ (by omega), gB_sub _ _ _ _ (by omega), gB_sub _ _ _ _ (by omega), gB_sub _ _ _ _ (by omega)]
  simp only [Nat.add_assoc]
theorem word_hi (W : List B32) (b : List UInt8) (m : Nat) : ad (ad (ad (gW W m) (mixS (gW W (m + 1)))) (gW W (m + 9))) (mixT (gW W (m + 14))) = wordN b W (m + 16) := by
  unfold wordN
  rw [if_neg (by omega)]
  rw [show m + 16 - 16 = m from by omega, show m + 16 - 15 = m + 1 from by omega, show m + 16 - 7 = m + 9 from by omega, show m + 16 - 2 = m + 14 from by omega]
theorem padA_length (hi : Bool) (l : List UInt8) : (padA hi l).length = l.length + 1 + fillN l.length + 8 := by unfold padA fillN; simp [bytesL_length]; omega
theorem padA_mod (hi : Bool) (l : List UInt8) : (padA hi l).length % 64 = 0 := by rw [padA_length]; unfold fillN; omega
theorem xor_ones (x : B32) : bits .xor .u32 (x.toNat : Int) 4294967295 = ((no x).toNat : Int) := by
  have e : (4294967295 : Int) = ((BitVec.allOnes 32).toNat : Int) := by decide
  rw [e, xor32, BitVec.xor_allOnes]; rfl
set_option maxRecDepth 100000 in
set_option maxHeartbeats 40000000 in
theorem sumR_any (l : List UInt8) (w : World) (hl : l.length ≤ 140737488355500) :
    Calls Tryz.prog 88 #[.string ⟨l.toArray⟩, .agg (arrM wordsA)] w fun e w' => e = .returned (.string ⟨(sha l).toArray⟩) ∧ Q w w' := by
  go_enter Tryz.func88, Tryz.ntmps88
  go_upto_region 1 with (fail)
  obtain ⟨w1, hw1, hW1, hq1, hs1⟩ : ∃ w1, w1 = w.alloc (.cells (arrM wordsA) 127) ∧ WordsAt w1 w.heap.size ∧ Q w w1 ∧ w1.heap.size = w.heap.size + 1 := ⟨_, rfl, heap_alloc_new w _, (Q.refl w).alloc _, by simp⟩
  refine Eq.mp (congrArg _ hw1) ?_
  clear hw1
  have HW := Lib.hid hW1
  have HQ := Lib.hid hq1
  have HS1 := Lib.hid hs1
  clear hW1 hq1 hs1
  iterate 4 go_step
  refine wpList_load_mid rfl 124 (.tmp 21) rfl w.heap.size 0 (by rfl) _ _ (words_h HW.out) Tryz.underlying124 rfl info8 ?_
  iterate 3 go_step
  refine wpList_store_row rfl 124 (.tmp 5) (.tmp 22) rfl w1.heap.size (arrM start256.list) rfl rfl 124 _ (heap_alloc_new w1 _) (by rw [arrM_size]; exact info8) rfl (arr_all _) ?_
  obtain ⟨w2, hw2, hs2, hA2, hq2⟩ := h_start w1 _ start256.list rfl
  rw [← hw2]
  clear hw2
  have HA := Lib.hid hA2
  have HW2 := Lib.hid (hq2.block HW.out)
  have HQ2 := Lib.hid (HQ.out.trans hq2)
  have hg1 : w1.heap.size < w2.heap.size := by omega
  have hg0 : w.heap.size < w1.heap.size := by rw [HS1.out]; omega
  clear hA2 hq2 hs2 HW HQ
  go_wp2_with fail
  with_reducible refine (padded_any l true _ hl).mono ?_
  rintro e w3 ⟨vb, rfl, hown, hq3⟩
  obtain ⟨bg, cb, hvb, hbg, hcb, hcb2, hbc⟩ := hown.pos (by rw [padA_length]; omega)
  have hsha : sha l = (blocksA alg256 (padA true l) ((padA true l).length / 64)).flatMap (outW true) := rfl
  have hpl := padA_length true l
  have hpm := padA_mod true l
  generalize padA true l = PB at *
  rw [hvb]
  obtain ⟨NB, hNB⟩ : ∃ NB, PB.length = 64 * NB := ⟨PB.length / 64, by omega⟩
  rw [show PB.length / 64 = NB from by omega] at hsha
  have hNL : NB ≤ 2199023255558 := by unfold fillN at hpl; omega
  obtain ⟨PL, hPL⟩ : ∃ PL, PL = PB.length := ⟨_, rfl⟩
  rw [← hPL] at hcb hbc ⊢
  have hPL2 : PL = 64 * NB := by omega
  have hPL3 : PL ≤ 140737488355712 := by omega
  have hPL4 : 0 < PL := by unfold fillN at hpl; omega
  have HSHA := Lib.hid hsha
  have HBC := Lib.hid hbc
  have HPB := Lib.hid hNB
  have HA3 := Lib.hid (A8At.x HA.out (GX.q (S := []) hq3) (by simp))
  have HW3 := Lib.hid (hq3.block HW2.out)
  have HQ3 := Lib.hid (HQ2.out.trans hq3)
  have hg3 : w1.heap.size < w3.heap.size := Nat.lt_of_lt_of_le hg1 hq3.size
  have hbl : bg < w3.heap.size := lt_of_cell (hbc 0 hPL4).1
  have HPL := Lib.hid hPL2
  have hb1 : w1.heap.size < bg := by omega
  clear hvb hown hq3 HA HW2 HQ2 hsha hbc hNB hpl hpm hg1 hPL hPL2 vb
  go_wp2_with fail
  go_loopw [7] (fun at_ wr => ∃ m : Nat, m ≤ NB ∧ at_ = .int .i64 (64 * m : Nat) ∧ A8At wr w1.heap.size (blocksA alg256 PB m) ∧ GX [w1.heap.size] w3 wr) (fun at_ _ => PL - (intOf at_).toNat)
  case atStart => exact ⟨0, by omega, rfl, HA3.out, GX.refl _ _⟩
  case round =>
    obtain ⟨m, hm, rfl, hA, hG⟩ := hrel
    by_cases hlt : m < NB
    --[
    · obtain ⟨at_, hat⟩ : ∃ at_, at_ = 64 * m := ⟨_, rfl⟩
      rw [← hat]
      have hat2 : at_ + 64 ≤ PL := by rw [HPL.out]; omega
      have hd : decide (at_ < PL) = true := by simp; omega
      have HAT := Lib.hid hat
      have HAA := Lib.hid hA
      have HGG := Lib.hid hG
      have hsz3 := hG.size
      clear hat hA hG HA3
      go_upto_region 7 with (fail)
      obtain ⟨w5, hw5, hZ5, hq5⟩ : ∃ w5, w5 = wr.alloc (.cells (arrM (List.replicate 64 0#32)) 125) ∧ ArrAt w5 wr.heap.size (List.replicate 64 0#32) ∧ Q wr w5 := ⟨_, rfl, ArrAt.new wr _ rfl, (Q.refl wr).alloc _⟩
      refine Eq.mp (congrArg _ hw5) ?_
      clear hw5
      have HZ5 := Lib.hid hZ5
      have HQ5 := Lib.hid hq5
      clear hZ5 hq5
      generalize hbb : sub PB at_ (at_ + 64) = b' at *
      have HBB := Lib.hid hbb
      clear hbb
      go_wp2_with fail
      obtain ⟨wo, rfl⟩ : ∃ wo : World, wo = wr := ⟨_, rfl⟩
      go_loopw [9] (fun i wz => ∃ k : Nat, k ≤ 64 ∧ i = .int .i64 k ∧ ArrAt wz wo.heap.size (wordsZ b' k) ∧ Q wo wz) (fun i _ => 64 - (intOf i).toNat)
      case atStart => exact ⟨0, by omega, rfl, HZ5.out, HQ5.out⟩
      case round =>
        obtain ⟨k, hk, rfl, hZ, hq⟩ := hrel
        by_cases hk64 : k < 64
        · have hd64 : decide ((k : Int) < 64) = true := by simp; omega
          --[
          by_cases h16 : k < 16
          · have hd16 : decide ((k : Int) < 16) = true := by simp; omega
            have hc : ∀ j, j < 4 → wr.cell? ⟨bg, at_ + 4 * k + j, none⟩ = some (.int .u8 ((gB PB (at_ + 4 * k + j)).toNat : Int)) := by
              intro j hj
              have h1 := (HBC.out (at_ + 4 * k + j) (by omega)).1
              have h2 : wo.cell? ⟨bg, at_ + 4 * k + j, none⟩ = w3.cell? ⟨bg, at_ + 4 * k + j, none⟩ := World.cell?_of_block (HGG.out.block bg hbl (by simp; omega))
              exact hq.cell (h2.trans h1)
            have c0 := hc 0 (by omega)
            have c1 := hc 1 (by omega)
            have c2 := hc 2 (by omega)
            have c3 := hc 3 (by omega)
            rw [Nat.add_zero] at c0
            have HZZ := Lib.hid hZ
            have HQQ := Lib.hid hq
            clear hc hZ hq HZ5 HQ5
            go_upto_region 11 with (fail)
            have y0 := fun m : QW wr => m.cell c0
            have y1 := fun m : QW wr => m.cell c1
            have y2 := fun m : QW wr => m.cell c2
            have y3 := fun m : QW wr => m.cell c3
            clear c0 c1 c2 c3
            refine wp_region_q_tail 43 (by kernel_rfl) (by kernel_rfl) ?_
            simp only [List.take_succ_cons, List.take_zero, List.drop_succ_cons, List.drop_zero]
            (repeat (go_big_quiet_step (fail)))
            refine wpQuiet_nil ?_
            rintro wx ⟨mx, hmx⟩
            have hqx : Q wr wx := by rw [hmx]; exact mx.le
            clear hmx mx y0 y1 y2 y3
            have hZx := HZZ.out.q hqx
            have hc := hZx.cell k hk64
            have hf := hZx.frozen k
            rw [be_bits]
            have hwl := word_lo PB m k h16
            rw [← HAT.out, HBB.out] at hwl
            rw [hwl]
            have HZX := Lib.hid hZx
            have HQX := Lib.hid (HQQ.out.trans hqx)
            clear hwl hZx hqx
            go_wp2_with fail
            go_roundw
            case rel =>
              refine ⟨k + 1, by omega, by go_num, ?_, Q.setNew HQX.out (Nat.le_refl _) _⟩
              rw [← wordsZ_set b' k hk64]
              exact ArrAt.set HZX.out k _
            case measure => simp [intOf]; omega
          · obtain ⟨j, rfl⟩ : ∃ j, k = j + 16 := ⟨k - 16, by omega⟩
            have hd16 : decide (((j + 16 : Nat) : Int) < 16) = false := by simp; omega
            have i1 : (((j + 16 : Nat) : Int) - 15) = ((j + 1 : Nat) : Int) := by omega
            have i2 : (((j + 16 : Nat) : Int) - 2) = ((j + 14 : Nat) : Int) := by omega
            have i3 : (((j + 16 : Nat) : Int) - 16) = ((j : Nat) : Int) := by omega
            have i4 : (((j + 16 : Nat) : Int) - 7) = ((j + 9 : Nat) : Int) := by omega
            have c0 := hZ.cell j (by omega)
            have c1 := hZ.cell (j + 1) (by omega)
            have c9 := hZ.cell (j + 9) (by omega)
            have c14 := hZ.cell (j + 14) (by omega)
            rw [wordsZ_old b' (j + 16) j (by omega)] at c0
            rw [wordsZ_old b' (j + 16) (j + 1) (by omega)] at c1
            rw [wordsZ_old b' (j + 16) (j + 9) (by omega)] at c9
            rw [wordsZ_old b' (j + 16) (j + 14) (by omega)] at c14
            have hwd := word_hi (wordsN b' (j + 16)) b' j
            generalize hX0 : gW (wordsN b' (j + 16)) j = X0 at *
            generalize hX1 : gW (wordsN b' (j + 16)) (j + 1) = X1 at *
            generalize hX9 : gW (wordsN b' (j + 16)) (j + 9) = X9 at *
            generalize hX14 : gW (wordsN b' (j + 16)) (j + 14) = X14 at *
            have HWD := Lib.hid hwd
            have HZZ := Lib.hid hZ
            have HQQ := Lib.hid hq
            clear hX0 hX1 hX9 hX14 hwd hZ hq HZ5 HQ5 h16
            go_upto_region 14 with (fail)
            have y0 := fun m : QW wr => m.cell c0
            have y9 := fun m : QW wr => m.cell c9
            have m1 := mixS_bits X1
            have m2 := mixT_bits X14
            have e1 : ((X0.toNat : Int) + ((mixS X1).toNat : Int)) % 4294967296 = ((ad X0 (mixS X1)).toNat : Int) := (ad_val _ _).symm
            have e2 : (((ad X0 (mixS X1)).toNat : Int) + (X9.toNat : Int)) % 4294967296 = ((ad (ad X0 (mixS X1)) X9).toNat : Int) := (ad_val _ _).symm
            have e3 : (((ad (ad X0 (mixS X1)) X9).toNat : Int) + ((mixT X14).toNat : Int)) % 4294967296 = ((ad (ad (ad X0 (mixS X1)) X9) (mixT X14)).toNat : Int) := (ad_val _ _).symm
            clear c0 c1 c9 c14
            refine wp_region_q_tail 29 (by kernel_rfl) (by kernel_rfl) ?_
            simp only [List.take_succ_cons, List.take_zero, List.drop_succ_cons, List.drop_zero]
            (repeat (go_big_quiet_step ((go_at_call 135; exact calls_q (rightK _ _ _ (by decide) (by decide))))))
            refine wpQuiet_nil ?_
            rintro wx ⟨mx, hmx⟩
            have hqx : Q wr wx := by rw [hmx]; exact mx.le
            clear hmx mx y0 y9 m1 m2 e1 e2
            have hZx := HZZ.out.q hqx
            have hc := hZx.cell (j + 16) hk64
            have hf := hZx.frozen (j + 16)
            rw [e3, HWD.out]
            have HZX := Lib.hid hZx
            have HQX := Lib.hid (HQQ.out.trans hqx)
            clear hZx hqx e3
            go_wp2_with fail
            go_roundw
            case rel =>
              refine ⟨j + 16 + 1, by omega, by go_num, ?_, Q.setNew HQX.out (Nat.le_refl _) _⟩
              rw [← wordsZ_set b' (j + 16) hk64]
              exact ArrAt.set HZX.out (j + 16) _
            case measure => simp [intOf]; omega
          --]
        · obtain rfl : k = 64 := by omega
          have hd64 : decide (((64 : Nat) : Int) < 64) = false := by simp
          rw [show ((64 : Nat) : Int) = 64 from rfl]
          rw [wordsZ_all] at hZ
          have HZZ := Lib.hid hZ
          have HQQ := Lib.hid hq
          clear hZ hq HZ5 HQ5
          go_upto_region 15 with (fail)
          have hAo := HAA.out.x (GX.q (S := []) HQQ.out) (by simp)
          have hG5 := HGG.out.trans (GX.q HQQ.out)
          have hwg : wo.heap.size < wr.heap.size := HZZ.out.lt
          have HAO := Lib.hid hAo
          have HG5 := Lib.hid hG5
          clear hAo hG5 HGG HAA HQQ
          iterate 1 go_step
          refine wpList_load_row rfl 124 (.tmp 5) rfl w1.heap.size (by rfl) _ _ _ _ HAO.out.1 Tryz.underlying124 rfl (by rw [arrM_size, HAO.out.2]; exact info8) ?_
          iterate 3 go_step
          refine wpList_store_row rfl 124 (.tmp 12) (.tmp 117) rfl wr.heap.size (arrM (blocksA alg256 PB m)) (by rfl) (by rfl) 124 _ (heap_alloc_new wr _) (by rw [arrM_size, HAO.out.2]; exact info8) (by rw [arrM_size, HAO.out.2]; rfl) (arr_all _) ?_
          obtain ⟨w6, hw6, hs6, hV6, hq6⟩ := h_start wr _ (blocksA alg256 PB m) HAO.out.2
          rw [← hw6]
          clear hw6
          have hHl := HAO.out.2
          have hmx : blocksA alg256 PB (m + 1) = (mix256L (of8 (blocksA alg256 PB m)) b').list := by rw [← HBB.out, HAT.out]; rfl
          have hst := of8_list _ hHl
          generalize blocksA alg256 PB m = ST at *
          obtain ⟨s, hs⟩ : ∃ s, s = of8 ST := ⟨_, rfl⟩
          rw [← hs] at hmx hst
          have HV6 := Lib.hid hV6
          have HQ6 := Lib.hid hq6
          have HZ6 := Lib.hid (HZZ.out.q hq6)
          have HMX := Lib.hid hmx
          have HST := Lib.hid hst
          have hwr6 : wr.heap.size < w6.heap.size := by omega
          clear hV6 hq6 hs6 hHl hmx hst hs HZZ
          go_wp2_with fail
          obtain ⟨wp, rfl⟩ : ∃ wp : World, wp = wr := ⟨_, rfl⟩
          go_loopw [13] (fun i wz => ∃ k : Nat, k ≤ 64 ∧ i = .int .i64 k ∧ A8At wz wp.heap.size (roundsN (wordsN b' 64) s k).list ∧ Q wp wz ∧ GX [wp.heap.size] w6 wz) (fun i _ => 64 - (intOf i).toNat)
          case atStart => exact ⟨0, by omega, rfl, by show A8At _ _ s.list; rw [HST.out]; exact HV6.out, HQ6.out, GX.refl _ _⟩
          case round =>
            obtain ⟨k, hk, rfl, hV, hq, hG⟩ := hrel
            by_cases hk64 : k < 64
            · have hd64 : decide ((k : Int) < 64) = true := by simp; omega
              --[
              have hRs : roundsN (wordsN b' 64) s (k + 1) = round8 (wordsN b' 64) (roundsN (wordsN b' 64) s k) k := rfl
              generalize roundsN (wordsN b' 64) s k = R at *
              have v0 : wr.cell? ⟨wp.heap.size, 0, none⟩ = some (.int .u32 (R.a.toNat : Int)) := hV.cell 0 (by decide)
              have v1 : wr.cell? ⟨wp.heap.size, 1, none⟩ = some (.int .u32 (R.b.toNat : Int)) := hV.cell 1 (by decide)
              have v2 : wr.cell? ⟨wp.heap.size, 2, none⟩ = some (.int .u32 (R.c.toNat : Int)) := hV.cell 2 (by decide)
              have v3 : wr.cell? ⟨wp.heap.size, 3, none⟩ = some (.int .u32 (R.d.toNat : Int)) := hV.cell 3 (by decide)
              have v4 : wr.cell? ⟨wp.heap.size, 4, none⟩ = some (.int .u32 (R.e.toNat : Int)) := hV.cell 4 (by decide)
              have v5 : wr.cell? ⟨wp.heap.size, 5, none⟩ = some (.int .u32 (R.f.toNat : Int)) := hV.cell 5 (by decide)
              have v6 : wr.cell? ⟨wp.heap.size, 6, none⟩ = some (.int .u32 (R.g.toNat : Int)) := hV.cell 6 (by decide)
              have v7 : wr.cell? ⟨wp.heap.size, 7, none⟩ = some (.int .u32 (R.h.toNat : Int)) := hV.cell 7 (by decide)
              have hWr : WordsAt wr w.heap.size := hq.block (HG5.out.heap (by simp; omega) HW3.out)
              have ck := hWr.k k hk64
              have cw := (HZ6.out.x hG (by simp; omega)).cell k hk64
              generalize hKK : gW k256 k = KK at ck
              generalize hWW : gW (wordsN b' 64) k = WW at cw
              have HKK := Lib.hid hKK
              have HWW := Lib.hid hWW
              have HRS := Lib.hid hRs
              have HVV := Lib.hid hV
              have HQQ := Lib.hid hq
              have HGG := Lib.hid hG
              clear hRs hV hq hG HV6 HQ6 hKK hWW hWr
              go_upto_region 21 with (fail)
              obtain ⟨S1, hS1⟩ : ∃ S1, S1 = xo (xo (rl 26 R.e) (rl 21 R.e)) (rl 7 R.e) := ⟨_, rfl⟩
              obtain ⟨CH, hCH⟩ : ∃ CH, CH = xo (an R.e R.f) (an (no R.e) R.g) := ⟨_, rfl⟩
              obtain ⟨S2, hS2⟩ : ∃ S2, S2 = xo (xo (rl 30 R.a) (rl 19 R.a)) (rl 10 R.a) := ⟨_, rfl⟩
              obtain ⟨MJ, hMJ⟩ : ∃ MJ, MJ = xo (xo (an R.a R.b) (an R.a R.c)) (an R.b R.c) := ⟨_, rfl⟩
              obtain ⟨TT, hTT⟩ : ∃ TT, TT = ad (ad (ad (ad R.h S1) CH) KK) WW := ⟨_, rfl⟩
              obtain ⟨UU, hUU⟩ : ∃ UU, UU = ad S2 MJ := ⟨_, rfl⟩
              have hNR : round8 (wordsN b' 64) R k = ⟨ad TT UU, R.a, R.b, R.c, ad R.d TT, R.e, R.f, R.g⟩ := by
                rw [hTT, hUU, hS1, hCH, hS2, hMJ, ← HKK.out, ← HWW.out]; rfl
              have s1 : bits .xor .u32 (bits .xor .u32 ((tr 6 R.e).toNat : Int) ((tr 11 R.e).toNat : Int)) ((tr 25 R.e).toNat : Int) = (S1.toNat : Int) := by rw [hS1, xor32, xor32]; rfl
              have n1 : bits .xor .u32 (R.e.toNat : Int) 4294967295 = ((no R.e).toNat : Int) := xor_ones _
              have a1 : bits .and .u32 (R.e.toNat : Int) (R.f.toNat : Int) = ((an R.e R.f).toNat : Int) := and32 _ _
              have a2 : bits .and .u32 ((no R.e).toNat : Int) (R.g.toNat : Int) = ((an (no R.e) R.g).toNat : Int) := and32 _ _
              have a3 : bits .xor .u32 ((an R.e R.f).toNat : Int) ((an (no R.e) R.g).toNat : Int) = (CH.toNat : Int) := by rw [hCH]; exact xor32 _ _
              have e1 : ((R.h.toNat : Int) + (S1.toNat : Int)) % 4294967296 = ((ad R.h S1).toNat : Int) := (ad_val _ _).symm
              have e2 : (((ad R.h S1).toNat : Int) + (CH.toNat : Int)) % 4294967296 = ((ad (ad R.h S1) CH).toNat : Int) := (ad_val _ _).symm
              have e3 : (((ad (ad R.h S1) CH).toNat : Int) + (KK.toNat : Int)) % 4294967296 = ((ad (ad (ad R.h S1) CH) KK).toNat : Int) := (ad_val _ _).symm
              have e4 : (((ad (ad (ad R.h S1) CH) KK).toNat : Int) + (WW.toNat : Int)) % 4294967296 = (TT.toNat : Int) := by rw [hTT]; exact (ad_val _ _).symm
              have HNR := Lib.hid hNR
              have HS2 := Lib.hid hS2
              have HMJ := Lib.hid hMJ
              have HUU := Lib.hid hUU
              have y0 := fun m : QW wr => m.cell v5
              have y1 := fun m : QW wr => m.cell v6
              have y2 := fun m : QW wr => m.cell v7
              have y3 := fun m : QW wr => m.cell ck
              have y4 := fun m : QW wr => m.cell cw
              have V0 := Lib.hid v0
              have V1 := Lib.hid v1
              have V2 := Lib.hid v2
              have V3 := Lib.hid v3
              have V4 := Lib.hid v4
              have V5 := Lib.hid v5
              have V6 := Lib.hid v6
              clear hNR hS1 hCH hS2 hMJ hTT hUU v0 v1 v2 v3 v4 v5 v6 v7 ck cw
              refine wp_region_q (by kernel_rfl) (by kernel_rfl) ?_
              (repeat (go_big_quiet_step ((go_at_call 135; exact calls_q (rightK _ _ _ (by decide) (by decide))))))
              refine wpQuiet_nil ?_
              rintro wx ⟨mx, hmx⟩
              have hqx : Q wr wx := by rw [hmx]; exact mx.le
              clear hmx mx y0 y1 y2 y3 y4 s1 n1 a1 a2 a3 e1 e2 e3
              rw [e4]
              go_wp2_with fail
              clear e4
              have s2 : bits .xor .u32 (bits .xor .u32 ((tr 2 R.a).toNat : Int) ((tr 13 R.a).toNat : Int)) ((tr 22 R.a).toNat : Int) = (S2.toNat : Int) := by rw [HS2.out, xor32, xor32]; rfl
              have a4 : bits .and .u32 (R.a.toNat : Int) (R.b.toNat : Int) = ((an R.a R.b).toNat : Int) := and32 _ _
              have a5 : bits .and .u32 (R.a.toNat : Int) (R.c.toNat : Int) = ((an R.a R.c).toNat : Int) := and32 _ _
              have a6 : bits .and .u32 (R.b.toNat : Int) (R.c.toNat : Int) = ((an R.b R.c).toNat : Int) := and32 _ _
              have a7 : bits .xor .u32 (bits .xor .u32 ((an R.a R.b).toNat : Int) ((an R.a R.c).toNat : Int)) ((an R.b R.c).toNat : Int) = (MJ.toNat : Int) := by rw [HMJ.out, xor32, xor32]; rfl
              have e5 : ((S2.toNat : Int) + (MJ.toNat : Int)) % 4294967296 = (UU.toNat : Int) := by rw [HUU.out]; exact (ad_val _ _).symm
              have z1 := hqx.cell V1.out
              have z2 := hqx.cell V2.out
              have y1 := fun m : QW wx => m.cell z1
              have y2 := fun m : QW wx => m.cell z2
              clear z1 z2
              refine wp_region_q (by kernel_rfl) (by kernel_rfl) ?_
              (repeat (go_big_quiet_step ((go_at_call 135; exact calls_q (rightK _ _ _ (by decide) (by decide))))))
              refine wpQuiet_nil ?_
              rintro wy ⟨my, hmy⟩
              have hqy : Q wr wy := by rw [hmy]; exact hqx.trans my.le
              clear hmy my y1 y2 s2 a4 a5 a6 a7
              rw [e5]
              clear e5
              have z0 := hqy.cell V0.out
              have z1 := hqy.cell V1.out
              have z2 := hqy.cell V2.out
              have z3 := hqy.cell V3.out
              have z4 := hqy.cell V4.out
              have z5 := hqy.cell V5.out
              have z6 := hqy.cell V6.out
              have e6 : ((TT.toNat : Int) + (UU.toNat : Int)) % 4294967296 = ((ad TT UU).toNat : Int) := (ad_val _ _).symm
              have e7 : ((R.d.toNat : Int) + (TT.toNat : Int)) % 4294967296 = ((ad R.d TT).toNat : Int) := (ad_val _ _).symm
              go_upto_region 23 with (fail)
              iterate 61 go_step
              refine wpList_store_row rfl 124 (.tmp 12) (.tmp 200) rfl wp.heap.size (arrM (St8.mk (ad TT UU) R.a R.b R.c (ad R.d TT) R.e R.f R.g).list) (by rfl) (by rfl) 124 _ (hqy.block HVV.out.1) (by rw [arrM_size]; exact info8) (by rw [arrM_size, HVV.out.2]; rfl) (arr_all _) ?_
              rw [← HNR.out]
              have hWY := GX.setRow ((HGG.out).trans (GX.q hqy)) (g := wp.heap.size) (by simp) (arrM (round8 (wordsN b' 64) R k).list)
              have hWQ := Q.setRow (HQQ.out.trans hqy) (g := wp.heap.size) (Nat.le_refl _) (arrM (round8 (wordsN b' 64) R k).list)
              have hV9 := a8_row (g := wp.heap.size) (hqy.block HVV.out.1) (round8 (wordsN b' 64) R k).list rfl
              generalize wy.setRow wp.heap.size (arrM (round8 (wordsN b' 64) R k).list) = wf at *
              have HWY := Lib.hid hWY
              have HWQ := Lib.hid hWQ
              have HV9 := Lib.hid hV9
              clear hWY hWQ hV9 z0 z1 z2 z3 z4 z5 z6 e6 e7 hqx hqy
              go_wp2_with fail
              go_roundw
              case rel => exact ⟨k + 1, by omega, by go_num, by rw [HRS.out]; exact HV9.out, HWQ.out, HWY.out⟩
              case measure => simp [intOf]; omega
              --]
            · obtain rfl : k = 64 := by omega
              rw [show ((64 : Nat) : Int) = 64 from rfl]
              have hd64 : decide ((64 : Int) < 64) = false := by decide
              have hR : mix256L s b' = add8 s (roundsN (wordsN b' 64) s 64) := rfl
              generalize roundsN (wordsN b' 64) s 64 = R at *
              have hA9 := (HAO.out.x (GX.q (S := []) hq) (by simp))
              rw [← HST.out] at hA9
              have hG9 := HG5.out.trans (GX.q hq)
              have HR := Lib.hid hR
              have HVV := Lib.hid hV
              have HA9 := Lib.hid hA9
              have HG9 := Lib.hid hG9
              have hwp9 : wp.heap.size < wr.heap.size := HVV.out.lt
              clear hR hV hA9 hG9 hq hG HV6 HQ6 HZ6
              go_wp2_with fail
              go_loopw [18] (fun i wz => ∃ k : Nat, k ≤ 8 ∧ i = .int .i64 k ∧ A8At wz w1.heap.size (addP s.list R.list k) ∧ GX [w1.heap.size] wr wz) (fun i _ => 8 - (intOf i).toNat)
              case atStart => exact ⟨0, by omega, rfl, HA9.out, GX.refl _ _⟩
              case round =>
                obtain ⟨k, hk, rfl, hA, hG⟩ := hrel
                by_cases hk8 : k < 8
                · have hd8 : decide ((k : Int) < 8) = true := by simp; omega
                  have c1 := hA.cell k hk8
                  rw [addP_old _ _ _ _ (Nat.le_refl k)] at c1
                  have c2 := (HVV.out.x hG (by simp; omega)).cell k hk8
                  have HA8 := Lib.hid hA
                  have HGZ := Lib.hid hG
                  clear hA hG
                  go_upto_region 27 with (fail)
                  have y1 := fun m : QW wr => m.cell c1
                  have y2 := fun m : QW wr => m.cell c2
                  clear c1 c2
                  refine wp_region_q_tail 9 (by kernel_rfl) (by kernel_rfl) ?_
                  simp only [List.take_succ_cons, List.take_zero, List.drop_succ_cons, List.drop_zero]
                  (repeat (go_big_quiet_step (fail)))
                  refine wpQuiet_nil ?_
                  rintro wx ⟨mx, hmx⟩
                  have hqx : Q wr wx := by rw [hmx]; exact mx.le
                  clear hmx mx y1 y2
                  have hAx := HA8.out.x (GX.q (S := []) hqx) (by simp)
                  have hc := hAx.cell k hk8
                  have hf := hAx.frozen k
                  have HAX := Lib.hid hAx
                  have HGX := Lib.hid (HGZ.out.trans (GX.q hqx))
                  clear hAx hqx
                  go_wp2_with fail
                  go_roundw
                  case rel =>
                    refine ⟨k + 1, by omega, by go_num, ?_, GX.set HGX.out (by simp) _ _⟩
                    have e1 := A8At.set HAX.out k (ad (gW s.list k) (gW R.list k))
                    rw [ad_val] at e1
                    exact e1
                  case measure => simp [intOf]; omega
                · obtain rfl : k = 8 := by omega
                  rw [show ((8 : Nat) : Int) = 8 from rfl]
                  have hd8 : decide ((8 : Int) < 8) = false := by decide
                  rw [addP_all, ← HR.out, ← HMX.out] at hA
                  have HA8 := Lib.hid hA
                  have HGZ := Lib.hid (HG9.out.trans hG)
                  clear hA hG HG9 HA9 HVV
                  go_wp2_with fail
                  go_roundw
                  case rel => exact ⟨m + 1, by omega, by rw [HAT.out]; go_num, HA8.out, HGZ.out⟩
                  case measure => simp [intOf]; omega
    --]
    · obtain rfl : m = NB := by omega
      rw [← HPL.out]
      have hd : decide (PL < PL) = false := by simp
      have HAA := Lib.hid hA
      have HG3 := Lib.hid hG
      have hHl := HAA.out.2
      generalize blocksA alg256 PB m = ST at *
      have hq4 : Q w wr := hG.toQ HQ3.out (by intro k hk; simp at hk; omega)
      have HQ4 := Lib.hid hq4
      clear hA hG HA3
      go_wp2_with fail
      obtain ⟨wq, rfl⟩ : ∃ wq : World, wq = wr := ⟨_, rfl⟩
      go_loopw [19, 20] (fun v i wz => ∃ k : Nat, k ≤ 8 ∧ i = .int .i64 k ∧ OwnB wq wz v ((ST.take k).flatMap (outW true)) ∧ Q wq wz) (fun _ i _ => 8 - (intOf i).toNat)
      case atStart => exact ⟨0, by omega, rfl, OwnB.nil _ _, Q.refl _⟩
      case round =>
        obtain ⟨k, hk, rfl, hO, hq⟩ := hrel
        by_cases hk8 : k < 8
        · have hd8 : decide ((k : Int) < 8) = true := by simp; omega
          have ca := HAA.out.cell k hk8
          have c1 := hq.cell ca
          have hfl : ((ST.take k).flatMap (outW true)).length ≤ 32 := by rw [flat_length, List.length_take]; omega
          have hsn : (ST.take (k + 1)).flatMap (outW true) = (ST.take k).flatMap (outW true) ++ outW true (gW ST k) := by
            rw [List.take_succ_eq_append_getElem (by rw [hHl]; exact hk8), List.flatMap_append]
            simp [gW, List.getD, hHl, hk8]
          generalize gW ST k = X at *
          generalize (ST.take k).flatMap (outW true) = F at *
          have b3 := shr8 X.toNat 3
          have b2 := shr8 X.toNat 2
          have b1 := shr8 X.toNat 1
          have b0 := shr8 X.toNat 0
          have ho : outW true X = [byN X.toNat 3, byN X.toNat 2, byN X.toNat 1, byN X.toNat 0] := rfl
          rw [ho] at hsn
          simp only [Nat.reduceMul, Int.reducePow, Int.pow_zero, Int.ediv_one, Nat.mul_zero] at b3 b2 b1 b0
          generalize byN X.toNat 3 = B3 at *
          generalize byN X.toNat 2 = B2 at *
          generalize byN X.toNat 1 = B1 at *
          generalize byN X.toNat 0 = B0 at *
          have b4 : (X.toNat : Int) / 16777216 = (B3.toNat : Int) := by rw [← b3]; have := X.isLt; omega
          have HSN := Lib.hid hsn
          have HO := Lib.hid hO
          have HQQ := Lib.hid hq
          clear hsn ho hO hq
          go_upto_region 32 with (fail)
          have p3 : IntKind.u8.wrap ((X.toNat : Int) / 16777216) = (B3.toNat : Int) := by rw [IntKind.wrap_u8]; exact b3
          have p2 : IntKind.u8.wrap ((X.toNat : Int) / 65536) = (B2.toNat : Int) := by rw [IntKind.wrap_u8]; exact b2
          have p1 : IntKind.u8.wrap ((X.toNat : Int) / 256) = (B1.toNat : Int) := by rw [IntKind.wrap_u8]; exact b1
          have p0 : IntKind.u8.wrap (X.toNat : Int) = (B0.toNat : Int) := by rw [IntKind.wrap_u8]; exact b0
          clear b4 b3 b2 b1 b0
          have i0 : (0 : Int) ≤ (k : Int) := by omega
          have i1 : (k : Int) < 8 := by omega
          have HCA := Lib.hid ca
          clear ca
          have HOX := Lib.hid (HO.out.q (Q.refl wr).drew)
          have HQX := Lib.hid HQQ.out.drew
          go_region_held3 (fun w' => w'.cell? ⟨w1.heap.size, k, none⟩ = some (.int .u32 (X.toNat : Int))) (first | go_keep | exact hq2.cell HCA.out) ((refine step_append_b (by rfl) (.tmp 218) (.tmp 238) (by rfl) wq wr.drew _ F (by rfl) HOX.out HQX.out [B3, B2, B1, B0] 4 rfl (by rfl) (by omega) ?_; intro v2 w9 hown2 hq2 _))
          have HO2 := Lib.hid hown2
          have HQ2 := Lib.hid hq2
          clear hown2 hq2
          go_wp2_with fail
          clear p3 p2 p1 p0
          go_roundw
          case rel => exact ⟨k + 1, by omega, by go_num, by rw [HSN.out]; exact HO2.out, HQ2.out⟩
          case measure => simp [intOf]; omega
        · obtain rfl : k = 8 := by omega
          rw [show ((8 : Nat) : Int) = 8 from rfl]
          have hd8 : decide ((8 : Int) < 8) = false := by decide
          rw [List.take_of_length_le (by omega), ← HSHA.out] at hO
          have hcv := conv_b hO
          have HQQ := Lib.hid (HQ4.out.trans hq)
          clear hO hq
          go_wp2_with fail
          go_ret
          exact ⟨rfl, HQQ.out⟩
end Go.Proofs.YtmmoenbmgcplkaaGreatDoor
set_option linter.unusedVariables false
namespace Go.Proofs.YtmmoenbmgcplkaaGreatDoor
open Go Go.RowKit
theorem words_built : Tryz.prog.built 127 [(0, .agg (arrM start256.list)), (1, .agg (arrM k256))] = some (arrM wordsA) := by kernel_rfl
theorem infoW : (Tryz.prog.info? 127).map (·.size) = some 72 := by kernel_rfl
theorem row_new (w : World) (cs ds : Array Value) (t : TypeId) : ((w.alloc (.cells cs t)).setRow w.heap.size ds).heap[w.heap.size]? = some (.cells ds t (0, 0)) := by
  simp only [World.setRow, Array.getElem?_modify, if_true]
  rw [heap_alloc_new]
  rfl
theorem build_at {P : Program} {ops : Array Oper} {rest : List Oper} {o : Oper} {a : Act} {w : World} {R : Exit → Act → World → Prop} (hg : o.guard = none) (t : TypeId) (parts : Array (Nat × Operand)) (ho : o.op = .build t parts)
    (cps : List (Nat × Value)) (he : (parts.map fun (i, x) => (i, a.eval x)).toList = cps) (cs : Array Value) (hf : P.built t cps = some cs) (h : wpList P ops R rest (a.put o.dst (.agg cs)) w) : wpList P ops R (o :: rest) a w :=
  wpList_build hg t parts ho (by rw [he, hf]; rfl) (by rw [he, hf]; exact h)
set_option maxRecDepth 100000 in
set_option maxHeartbeats 4000000 in
theorem words_any (w : World) : Calls Tryz.prog 87 #[] w fun e w' => e = .returned (.agg (arrM wordsA)) ∧ Q w w' := by
  go_enter Tryz.func87, Tryz.ntmps87
  go_upto_region 1 with (fail)
  iterate 4 go_step
  refine build_const rfl 125 (partsOf k256) (arrM k256) (some _) rfl (by kernel_rfl) k256_built ?_
  refine build_at rfl 127 #[(0, .tmp 1), (1, .tmp 2)] (by rfl) [(0, .agg (arrM start256.list)), (1, .agg (arrM k256))] (by simp only [List.map_toArray, List.map_cons, List.map_nil]; rfl) _ words_built ?_
  refine wpList_store_row rfl 127 (.tmp 0) (.tmp 3) (by rfl) w.heap.size (arrM wordsA) (by rfl) (by rfl) 127 _ (heap_alloc_new w _) (by rw [arrM_size]; exact infoW) rfl (arr_all _) ?_
  have hr := row_new w (Tryz.zeroCells127) (arrM wordsA) 127
  have hq := Q.setRow ((Q.refl w).alloc (.cells Tryz.zeroCells127 127)) (Nat.le_refl _) (arrM wordsA)
  generalize (w.alloc (.cells Tryz.zeroCells127 127)).setRow w.heap.size (arrM wordsA) = w1 at *
  have HR := Lib.hid hr
  have HQ := Lib.hid hq
  clear hr hq
  go_wp2_with fail
  refine bodyPost_ret (v := .agg (arrM wordsA)) ?_ rfl ⟨rfl, HQ.out⟩
  exact results_cell_row rfl _ _ w.heap.size 127 _ (0, 0) _ rfl HR.out Tryz.underlying127 rfl (by rw [arrM_size]; exact infoW)
theorem w5_start (w : World) (cs : Array Value) : ∃ w3, w3 = (w.alloc (.cells cs 127)).setRow w.heap.size (arrM wordsA) ∧ WordsAt w3 w.heap.size ∧ Q w w3 :=
  ⟨_, rfl, row_new w cs _ _, Q.setRow ((Q.refl w).alloc _) (Nat.le_refl _) _⟩
set_option maxRecDepth 100000 in
set_option maxHeartbeats 4000000 in
theorem Sum256R_any (l : List UInt8) (w : World) (hl : l.length ≤ 140737488355500) :
    Calls Tryz.prog 45 #[.string ⟨l.toArray⟩] w fun e w' => e = .returned (.string ⟨(sha l).toArray⟩) ∧ Q w w' := by
  go_enter Tryz.func45, Tryz.ntmps45
  go_wp2_with fail
  with_reducible refine (words_any _).mono ?_
  rintro e w1 ⟨rfl, hq1⟩
  have HQ1 := Lib.hid hq1
  clear hq1
  go_upto_region 2 with (refine wpList_store_row rfl 127 (.tmp 3) (.tmp 4) (by rfl) w1.heap.size (arrM wordsA) (by rfl) (by rfl) 127 _ (heap_alloc_new w1 _) (by rw [arrM_size]; exact infoW) rfl (arr_all _) ?_)
  obtain ⟨w3, hw3, hW3, hq3⟩ := w5_start w1 Tryz.zeroCells127
  rw [← hw3]
  clear hw3
  have HW3 := Lib.hid hW3
  have HQ3 := Lib.hid (HQ1.out.trans hq3)
  clear hW3 hq3
  iterate 4 go_step
  refine wpList_load_row rfl 127 (.tmp 3) rfl w1.heap.size (by rfl) _ _ _ _ HW3.out Tryz.underlying127 rfl (by rw [arrM_size]; exact infoW) ?_
  go_wp2_with fail
  with_reducible refine (sumR_any l _ hl).mono ?_
  rintro e w4 ⟨rfl, hq4⟩
  go_wp2_with fail
  go_ret
  exact ⟨rfl, HQ3.out.trans hq4⟩
end Go.Proofs.YtmmoenbmgcplkaaGreatDoor
set_option linter.unusedVariables false
namespace Go.Proofs.YtmmoenbmgcplkaaGreatDoor
open Go Go.RowKit
theorem make_full (n : Nat) (w : World) (hn : n ≤ 281474976710656) : ∃ w', (Instr.makeSlice 88 (.int .i64 (n : Int)) (.int .i64 (n : Int))).run Tryz.prog w = .ok (.slice (some ⟨w.heap.size, 0, none⟩) n n) w' ∧ OwnB w w' (.slice (some ⟨w.heap.size, 0, none⟩) n n) (List.replicate n 0) ∧ Q w w' ∧ w'.heap.size = w.heap.size + 1 := by
  obtain ⟨i, hi, hz, hsz, hby⟩ := info_parts info_u8
  have h := run_make (P := Tryz.prog) w 88 5 i _ Tryz.underlying88 hi hz .i64 .i64 (n : Int) (n : Int) (by omega) (by omega) (by rw [hby]; omega) (by omega)
  refine ⟨_, h, .inr ⟨w.heap.size, n, _, (0, 0), by simp, Nat.le_refl _, heap_alloc_new w _, .inl rfl, by simp, by unfold maxLen; omega, ?_, ?_⟩, (Q.refl w).alloc _, by simp⟩
  · rw [size_madeCells, hsz]; simp
  · rw [hsz]
    apply List.ext_getElem?
    intro j
    simp only [madeCells, List.length_replicate, List.map_replicate, Int.toNat_natCast, Nat.mul_one, List.getElem?_take, Array.getElem?_toList, Array.getElem?_map, List.getElem?_replicate]
    by_cases hj : j < n
    · simp [hj, Value.cells, u8V, Nat.mod_one]
    · simp [hj]
def mixR (x : UInt8) (b : List UInt8) (k : Nat) : List UInt8 := (xo8 x b).take k ++ List.replicate (64 - k) 0
theorem mixR_0 (x : UInt8) (b : List UInt8) : mixR x b 0 = List.replicate 64 0 := by simp [mixR]
theorem mixR_length (x : UInt8) (b : List UInt8) (k : Nat) (hb : b.length = 64) (hk : k ≤ 64) : (mixR x b k).length = 64 := by simp [mixR, xo8, hb]; omega
theorem mixR_all (x : UInt8) (b : List UInt8) (hb : b.length = 64) : mixR x b 64 = xo8 x b := by unfold mixR; rw [List.take_of_length_le (by rw [xo8_length]; omega)]; simp
theorem mixR_step (x : UInt8) (b : List UInt8) (k : Nat) (hb : b.length = 64) (hk : k < 64) : (mixR x b k).set k (xb (gB b k) x) = mixR x b (k + 1) := by
  unfold mixR
  have h1 : ((xo8 x b).take k).length = k := by rw [List.length_take, xo8_length]; omega
  have h2 : k < (xo8 x b).length := by rw [xo8_length]; omega
  rw [List.set_append, if_neg (by omega), h1, Nat.sub_self, show 64 - k = (64 - (k + 1)) + 1 from by omega, List.replicate_succ, List.set_cons_zero, List.take_succ_eq_append_getElem h2]
  have h3 : (xo8 x b)[k] = xb (gB b k) x := by simp [xo8, gB, List.getD, show k < b.length by omega]
  rw [h3]
  simp
theorem keyB_at (k : List UInt8) (i : Nat) : gB (keyB k) i = gB k i := by
  unfold keyB gB
  by_cases h : i < k.length
  · simp [List.getD, List.getElem?_append_left, h]
  · simp only [List.getD]
    rw [List.getElem?_append_right (by omega), List.getElem?_replicate, List.getElem?_eq_none (by omega)]
    split <;> rfl
theorem OwnB.x {w0 w w' : World} {v : Value} {b : List UInt8} {S : List Nat} (h : OwnB w0 w v b) (hg : GX S w w') (hS : ∀ k, v.ownBlock = some k → k ∉ S) : OwnB w0 w' v b := by
  rcases h with h | ⟨g, cap, cur, fz, hv, h1, h2, h3⟩
  · exact .inl h
  · exact .inr ⟨g, cap, cur, fz, hv, h1, hg.heap (hS g (by rw [hv]; rfl)) h2, h3⟩
theorem OwnB.at {w0 w : World} {g n cap : Nat} {b : List UInt8} (h : OwnB w0 w (.slice (some ⟨g, 0, none⟩) n cap) b) (i : Nat) (hi : i < b.length) : w.cell? ⟨g, i, none⟩ = some (.int .u8 ((gB b i).toNat : Int)) ∧ w.frozen? ⟨g, i, none⟩ = false := by
  obtain ⟨g', cap', hv, _, _, _, hc⟩ := h.pos (by omega)
  cases hv
  exact hc i hi
set_option maxRecDepth 100000 in
set_option maxHeartbeats 4000000 in
theorem MACR_tail (k key s : List UInt8) (w : World) (hk : k.length ≤ 64) (hs : s.length ≤ 140737488355328) (hkey : key.length ≤ 140737488355328) (hkk : keyOf key = k) :
    Calls Tryz.prog 47 #[.string ⟨key.toArray⟩, .string ⟨s.toArray⟩] w fun e w' => e = .returned (.string ⟨(mac key s).toArray⟩) ∧ Q w w' := by
  have hm : mac key s = sha (xo8 0x5c (keyB k) ++ sha (xo8 0x36 (keyB k) ++ s)) := by unfold mac; rw [hkk]
  have HM := Lib.hid hm
  have HK := Lib.hid hkk
  clear hm hkk
  go_enter Tryz.func47, Tryz.ntmps47
  go_wp2_with fail
  with_reducible refine (words_any _).mono ?_
  rintro e w1 ⟨rfl, hq1⟩
  have HQ1 := Lib.hid hq1
  clear hq1
  go_upto_region 2 with (refine wpList_store_row rfl 127 (.tmp 5) (.tmp 10) (by rfl) w1.heap.size (arrM wordsA) (by rfl) (by rfl) 127 _ (heap_alloc_new w1 _) (by rw [arrM_size]; exact infoW) rfl (arr_all _) ?_)
  obtain ⟨w3, hw3, hW3, hq3⟩ := w5_start w1 Tryz.zeroCells127
  rw [← hw3]
  clear hw3
  generalize w1.heap.size = gw at *
  have HW3 := Lib.hid hW3
  have HQ3 := Lib.hid (HQ1.out.trans hq3)
  clear hW3 hq3 HQ1
  go_upto_if 13 with (fail)
  go_cut [0] (fun s0 wx => s0 = .string ⟨k.toArray⟩ ∧ WordsAt wx gw ∧ Q w wx)
  case first =>
    by_cases hb : 64 < key.length
    · have hd : decide ((64 : Int) < (key.length : Int)) = true := by simp; omega
      have hd2 : decide (64 < key.length) = true := by simp; omega
      have hkk : sha key = k := by rw [← HK.out]; unfold keyOf; rw [if_pos hb]
      have HK2 := Lib.hid hkk
      clear hkk
      go_upto_region 3 with (fail)
      iterate 4 go_step
      refine wpList_load_row rfl 127 (.tmp 5) rfl gw (by rfl) _ _ _ _ HW3.out Tryz.underlying127 rfl (by rw [arrM_size]; exact infoW) ?_
      go_wp2_with fail
      with_reducible refine (sumR_any key _ (by omega)).mono ?_
      rintro e w2 ⟨rfl, hq2⟩
      go_wp2_with fail
      go_meet
      case rel => exact ⟨by rw [HK2.out], hq2.block HW3.out, HQ3.out.trans hq2⟩
    · have hd : decide ((64 : Int) < (key.length : Int)) = false := by simp; omega
      have hd2 : decide (64 < key.length) = false := by simp; omega
      have hkk : key = k := by rw [← HK.out]; unfold keyOf; rw [if_neg hb]
      have HK2 := Lib.hid hkk
      clear hkk
      go_wp2_with fail
      go_meet
      case rel => exact ⟨by rw [HK2.out], HW3.out, HQ3.out⟩
  case rest =>
    obtain ⟨rfl, hWW, hQQ⟩ := hcut
    obtain ⟨wi, hri, hoi, hqi, hsi⟩ := make_full 64 wc (by decide)
    obtain ⟨wo, hro, hoo, hqo, hso⟩ := make_full 64 wi (by decide)
    have hWo : WordsAt wo gw := (hqi.trans hqo).block hWW
    have hQo := (hQQ.trans hqi).trans hqo
    have hoi2 : OwnB wc wo (.slice (some ⟨wc.heap.size, 0, none⟩) 64 64) (List.replicate 64 0) := hoi.q hqo
    have hoo2 := hoo.base hqi.size
    have hgw : gw < wc.heap.size := lt_of_heap hWW
    rw [hsi] at hoo2 hro
    rw [show ((64 : Nat) : Int) = 64 from rfl] at hri hro
    have hQc := hQQ.size
    generalize hgi : wc.heap.size = gi at *
    have HOI := Lib.hid hoi2
    have HOO := Lib.hid hoo2
    have HWO := Lib.hid hWo
    have HQO := Lib.hid hQo
    clear hWW hQQ hoi hoo hqi hqo hoi2 hoo2 hWo hQo hsi hso hgi
    go_upto_region 7 with (fail)
    clear hri hro
    have hKl := keyB_length k hk
    have hKa := keyB_at k
    generalize keyB k = K at *
    have HKL := Lib.hid hKl
    have HKA := Lib.hid hKa
    clear hKl hKa
    go_loopw [8] (fun i wz => ∃ j : Nat, j ≤ 64 ∧ i = .int .i64 j ∧ OwnB wc wz (.slice (some ⟨gi, 0, none⟩) 64 64) (mixR 0x36 K j) ∧ OwnB wc wz (.slice (some ⟨gi + 1, 0, none⟩) 64 64) (mixR 0x5c K j) ∧ GX [gi, gi + 1] wo wz) (fun i _ => 64 - (intOf i).toNat)
    case atStart => exact ⟨0, by omega, rfl, by rw [mixR_0]; exact HOI.out, by rw [mixR_0]; exact HOO.out, GX.refl _ _⟩
    case round =>
      obtain ⟨j, hj, rfl, hI, hO, hG⟩ := hrel
      by_cases hj64 : j < 64
      · have hd : decide ((j : Int) < 64) = true := by simp; omega
        have hil := mixR_length 0x36 K j HKL.out hj
        have hol := mixR_length 0x5c K j HKL.out hj
        have hI2 := hI.set j (xb (gB k j) 0x36)
        rw [← HKA.out j, mixR_step 0x36 K j HKL.out hj64, HKA.out j] at hI2
        by_cases hin : j < k.length
        · have hd2 : decide (j < k.length) = true := by simpa using hin
          obtain ⟨V1, hV1⟩ : ∃ V1, V1 = ((xb (gB k j) 0x36).toNat : Int) := ⟨_, rfl⟩
          obtain ⟨V2, hV2⟩ : ∃ V2, ((xb (gB k j) 0x5c).toNat : Int) = V2 := ⟨_, rfl⟩
          have x1 : bits .xor .u8 ((gB k j).toNat : Int) 54 = V1 := by rw [hV1]; exact xor8 _ 54
          have x2 : bits .xor .u8 ((gB k j).toNat : Int) 92 = V2 := by rw [← hV2]; exact xor8 _ 92
          rw [← hV1] at hI2
          have HV2 := Lib.hid hV2
          have HI2 := Lib.hid hI2
          clear hV1 hV2 hI2
          go_upto_region 12 with (fail)
          have hi1 := (hI.at j (by omega)).1
          have hi2 := (hI.at j (by omega)).2
          go_upto_region 13 with (fail)
          clear x1 hi1 hi2
          obtain ⟨wv, hwv, hIv, hGv⟩ : ∃ wv, wv = wr.setCell ⟨gi, j, none⟩ (.int .u8 V1) ∧ OwnB wc wv (.slice (some ⟨gi, 0, none⟩) 64 64) (mixR 0x36 K (j + 1)) ∧ GX [gi] wr wv := ⟨_, rfl, HI2.out, (GX.refl _ _).set (by simp) _ _⟩
          refine Eq.mp (congrArg _ hwv) ?_
          clear hwv
          have hOv := hO.x hGv (by intro k hk; simp [Value.ownBlock] at hk; simp; omega)
          have ho1 := (hOv.at j (by omega)).1
          have ho2 := (hOv.at j (by omega)).2
          have hO3 := hOv.set j (xb (gB k j) 0x5c)
          rw [← HKA.out j, mixR_step 0x5c K j HKL.out hj64, HKA.out j, HV2.out] at hO3
          have hI3 := hIv.x ((GX.refl [gi + 1] wv).set (g := gi + 1) (by simp) j (.int .u8 V2)) (by intro k hk; simp [Value.ownBlock] at hk; simp; omega)
          have hG3 := ((hG.trans (hGv.mono (S' := [gi, gi + 1]) (by simp))).set (g := gi + 1) (by simp) j (.int .u8 V2))
          have HI3 := Lib.hid hI3
          have HO3 := Lib.hid hO3
          have HG3 := Lib.hid hG3
          clear hIv hOv hO3 hI3 hG3 hGv hI hO hG
          go_wp2_with fail
          go_roundw
          case rel => exact ⟨j + 1, by omega, by go_num, HI3.out, HO3.out, HG3.out⟩
          case measure => simp [intOf]; omega
        · have hd2 : decide (j < k.length) = false := by simpa using hin
          have hz : gB k j = 0 := by simp [gB, List.getD]; rw [List.getElem?_eq_none (by omega)]; rfl
          obtain ⟨V1, hV1⟩ : ∃ V1, V1 = ((xb (gB k j) 0x36).toNat : Int) := ⟨_, rfl⟩
          obtain ⟨V2, hV2⟩ : ∃ V2, ((xb (gB k j) 0x5c).toNat : Int) = V2 := ⟨_, rfl⟩
          have hV3 : V1 = 54 := by rw [hV1, hz]; rfl
          have hV4 : V2 = 92 := by rw [← hV2, hz]; rfl
          have x1 : bits .xor .u8 0 54 = V1 := by rw [hV3]; decide
          have x2 : bits .xor .u8 0 92 = V2 := by rw [hV4]; decide
          rw [← hV1] at hI2
          have HV2 := Lib.hid hV2
          have HI2 := Lib.hid hI2
          clear hV1 hV2 hI2 hV3 hV4 hz
          go_upto_region 12 with (fail)
          have hi1 := (hI.at j (by omega)).1
          have hi2 := (hI.at j (by omega)).2
          go_upto_region 13 with (fail)
          clear x1 hi1 hi2
          obtain ⟨wv, hwv, hIv, hGv⟩ : ∃ wv, wv = wr.setCell ⟨gi, j, none⟩ (.int .u8 V1) ∧ OwnB wc wv (.slice (some ⟨gi, 0, none⟩) 64 64) (mixR 0x36 K (j + 1)) ∧ GX [gi] wr wv := ⟨_, rfl, HI2.out, (GX.refl _ _).set (by simp) _ _⟩
          refine Eq.mp (congrArg _ hwv) ?_
          clear hwv
          have hOv := hO.x hGv (by intro k hk; simp [Value.ownBlock] at hk; simp; omega)
          have ho1 := (hOv.at j (by omega)).1
          have ho2 := (hOv.at j (by omega)).2
          have hO3 := hOv.set j (xb (gB k j) 0x5c)
          rw [← HKA.out j, mixR_step 0x5c K j HKL.out hj64, HKA.out j, HV2.out] at hO3
          have hI3 := hIv.x ((GX.refl [gi + 1] wv).set (g := gi + 1) (by simp) j (.int .u8 V2)) (by intro k hk; simp [Value.ownBlock] at hk; simp; omega)
          have hG3 := ((hG.trans (hGv.mono (S' := [gi, gi + 1]) (by simp))).set (g := gi + 1) (by simp) j (.int .u8 V2))
          have HI3 := Lib.hid hI3
          have HO3 := Lib.hid hO3
          have HG3 := Lib.hid hG3
          clear hIv hOv hO3 hI3 hG3 hGv hI hO hG
          go_wp2_with fail
          go_roundw
          case rel => exact ⟨j + 1, by omega, by go_num, HI3.out, HO3.out, HG3.out⟩
          case measure => simp [intOf]; omega
      · obtain rfl : j = 64 := by omega
        rw [show ((64 : Nat) : Int) = 64 from rfl]
        have hd : decide ((64 : Int) < 64) = false := by decide
        rw [mixR_all _ _ HKL.out] at hI hO
        have hcI := fun m : QW wr => conv_b (hI.q m.le)
        have hcO := fun m : QW wr => conv_b (hO.q m.le)
        have hWr : WordsAt wr gw := hG.heap (by simp; omega) HWO.out
        have hWm : ∀ w' : World, (∃ m : QW wr, w' = m.val) → w'.heap[gw]? = some (.cells (arrM wordsA) 127 (0, 0)) := fun w' ⟨m, hm⟩ => by rw [hm]; exact m.le.block hWr
        have HWM := Lib.hid hWm
        have hl5 := xo8_length 0x5c K
        have hl3 := xo8_length 0x36 K
        rw [HKL.out] at hl5 hl3
        have hQr : Q w wr := hG.toQ HQO.out (by intro x hx; simp at hx; have := HQ3.out.size; have := hQc; omega)
        have HQR := Lib.hid hQr
        generalize xo8 0x5c K = X at *
        generalize xo8 0x36 K = Y at *
        have hXl : X.length ≤ 64 := by omega
        have hYl : Y.length ≤ 64 := by omega
        have hb1 : Y.length + s.length ≤ 140737488355392 := by omega
        have hZl := sha_length (Y ++ s)
        generalize hZ : sha (Y ++ s) = Z at *
        have HZ := Lib.hid hZ
        clear hI hO hG hWr hWm HOI HOO hQr hl5 hl3 hZ
        go_upto_region 14 with (fail)
        refine wp_region_q (by kernel_rfl) (by kernel_rfl) ?_
        (repeat (go_big_quiet_step (fail)))
        refine wpQuiet_load_row rfl 127 (.tmp 5) rfl gw (by rfl) _ _ _ _ HWM.out Tryz.underlying127 rfl (by rw [arrM_size]; exact infoW) ?_
        simp only [Act.put, List.setIfInBounds_toArray, List.set_cons_succ, List.set_cons_zero]
        (repeat (go_big_quiet_step ((go_at_call 88; exact calls_q (sumR_any (Y ++ s) _ (by rw [List.length_append]; omega))))))
        rw [HZ.out]
        (repeat (go_big_quiet_step (fail)))
        refine wpQuiet_load_row rfl 127 (.tmp 5) rfl gw (by rfl) _ _ _ _ HWM.out Tryz.underlying127 rfl (by rw [arrM_size]; exact infoW) ?_
        simp only [Act.put, List.setIfInBounds_toArray, List.set_cons_succ, List.set_cons_zero]
        (repeat (go_big_quiet_step ((go_at_call 88; exact calls_q (sumR_any (X ++ Z) _ (by rw [List.length_append]; omega))))))
        refine wpQuiet_nil ?_
        rintro wx ⟨mx, hmx⟩
        have hqx : Q w wx := by rw [hmx]; exact HQR.out.trans mx.le
        have HQX := Lib.hid hqx
        clear hmx mx hqx hcO hcI
        rw [← HM.out]
        go_wp2_with fail
        go_ret
        exact ⟨rfl, HQX.out⟩
theorem MACR_any (key s : List UInt8) (w : World) (hs : s.length ≤ 140737488355328) (hkey : key.length ≤ 140737488355328) :
    Calls Tryz.prog 47 #[.string ⟨key.toArray⟩, .string ⟨s.toArray⟩] w fun e w' => e = .returned (.string ⟨(mac key s).toArray⟩) ∧ Q w w' := by
  refine MACR_tail (keyOf key) key s w ?_ (by omega) (by omega) rfl
  unfold keyOf
  split
  · rw [sha_length]; omega
  · omega
end Go.Proofs.YtmmoenbmgcplkaaGreatDoor
set_option linter.unusedVariables false
namespace Go.Proofs.YtmmoenbmgcplkaaGreatDoor
open Go Go.RowKit
end Go.Proofs.YtmmoenbmgcplkaaGreatDoor
set_option linter.unusedVariables false
namespace Go.Proofs.YtmmoenbmgcplkaaGreatDoor
open Go Go.RowKit
set_option maxRecDepth 100000 in
set_option maxHeartbeats 4000000 in
theorem RHex_any (l : List UInt8) (w : World) (hl : l.length ≤ 100000000000000) : Calls Tryz.prog 44 #[.string ⟨l.toArray⟩] w fun e w' => e = .returned (.string ⟨(hexL l).toArray⟩) ∧ Q w w' := by
  go_enter Tryz.func44, Tryz.ntmps44
  go_wp2_with fail
  go_loopw [3, 4] (fun v i wr => ∃ k : Nat, k ≤ l.length ∧ i = .int .i64 k ∧ OwnB w wr v (hexL (l.take k)) ∧ Q w wr) (fun _ i _ => l.length - (intOf i).toNat)
  case atStart => exact ⟨0, by omega, rfl, OwnB.nil _ _, Q.refl _⟩
  case round =>
    obtain ⟨k, hk, rfl, hO, hq⟩ := hrel
    by_cases hlt : k < l.length
    · have hd : decide (k < l.length) = true := by simpa using hlt
      have hlk : (hexL (l.take k)).length = 2 * k := by rw [hexL_length, List.length_take]; omega
      have HSN := Lib.hid (hexL_snoc l k hlt)
      generalize hexL (l.take k) = F at *
      have hcn := (gB l k).toNat_lt
      have HO := Lib.hid hO
      have HQ := Lib.hid hq
      have HLK := Lib.hid hlk
      clear hO hq hlk
      go_upto_region 5 with (fail)
      have i1 : ((gB l k).toNat : Int) / 16 < 16 := by omega
      have i2 : (0 : Int) ≤ ((gB l k).toNat : Int) / 16 := by omega
      have i3 : ((gB l k).toNat : Int) % 16 < 16 := by omega
      have i4 : (0 : Int) ≤ ((gB l k).toNat : Int) % 16 := by omega
      have n1 : (((gB l k).toNat : Int) / 16).toNat = (gB l k).toNat / 16 := by omega
      have n2 : (((gB l k).toNat : Int) % 16).toNat = (gB l k).toNat % 16 := by omega
      refine wp_region_pure [0, 1, 2, 3, 4, 5, 6, 7, 8, 9, 10] [11, 12, 13] (by kernel_rfl) (by kernel_rfl) (by intro c a d v w h; cases d <;> exact h) ?_
      simp only [List.map_cons, List.map_nil, Array.getD_eq_getD_getElem?, List.getElem?_toArray, List.getElem?_cons_succ, List.getElem?_cons_zero, Option.getD_some]
      (repeat (go_big_quiet_step (fail)))
      refine wpQuiet_nil ?_
      clear i1 i2 i3 i4 n1 n2
      have HO1 := Lib.hid (HO.out.q (Q.refl wr).drew)
      have HQ1 := Lib.hid HQ.out.drew
      go_wp2_with (at_builtin; refine wpList_append_b rfl (.tmp 11) (.tmp 22) rfl w wr.drew _ F (by rfl) HO1.out HQ1.out [gB hexd ((gB l k).toNat / 16), gB hexd ((gB l k).toNat % 16)] 2 rfl (by rfl) (by rw [HLK.out]; omega) ?_; intro v9 w9 hown9 hq9 _; have HO9 := Lib.hid hown9; have HQ9 := Lib.hid hq9; clear hown9 hq9)
      go_roundw
      case rel => exact ⟨k + 1, by omega, by go_num, by rw [HSN.out]; exact HO9.out, HQ9.out⟩
      case measure => simp [intOf]; omega
    · obtain rfl : k = l.length := by omega
      have hd : decide (l.length < l.length) = false := by simp
      rw [List.take_length] at hO
      have hcv := conv_b hO
      have HQ := Lib.hid hq
      clear hO hq
      go_wp2_with fail
      go_ret
      exact ⟨rfl, HQ.out⟩
end Go.Proofs.YtmmoenbmgcplkaaGreatDoor
