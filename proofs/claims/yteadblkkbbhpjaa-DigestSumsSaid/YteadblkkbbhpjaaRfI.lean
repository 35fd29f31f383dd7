/- The reference's table of MD5, and small laws. -/
import Derived.Test.YteadblkkbbhpjaaRfC
set_option linter.unusedVariables false
namespace Go.Proofs.Yteadblkkbbhpjaa
open Go Go.RowKit
theorem le_bits (a b c d : UInt8) : bits .or .u32 (bits .or .u32 (bits .or .u32 ((a.toNat : Int) % 4294967296) ((b.toNat : Int) % 4294967296 * 256 % 4294967296)) ((c.toNat : Int) % 4294967296 * 65536 % 4294967296)) ((d.toNat : Int) % 4294967296 * 16777216 % 4294967296) =
    ((be d c b a).toNat : Int) := by
  have a1 := a.toNat_lt
  have b1 := b.toNat_lt
  have c1 := c.toNat_lt
  have d1 := d.toNat_lt
  have wr : ∀ n : Int, 0 ≤ n → n < 2 ^ 32 → IntKind.u32.wrap n = n := fun n h0 h1 => by rw [IntKind.wrap_u32]; omega
  have cm : ∀ x y : Int, bits .or .u32 x y = bits .or .u32 y x := by intro x y; simp only [bits]; rw [BitVec.or_comm]
  rw [show (d.toNat : Int) % 4294967296 * 16777216 % 4294967296 = (d.toNat : Int) * 16777216 from by omega, show (c.toNat : Int) % 4294967296 * 65536 % 4294967296 = (c.toNat : Int) * 65536 from by omega,
    show (b.toNat : Int) % 4294967296 * 256 % 4294967296 = (b.toNat : Int) * 256 from by omega, show (a.toNat : Int) % 4294967296 = (a.toNat : Int) from by omega]
  rw [cm (a.toNat : Int) _]
  rw [bits_join .u32 32 (by decide) wr 8 ((b.toNat : Int) * 256) (a.toNat : Int) (by omega) (by omega) (by omega) (by omega) (by omega) (by omega)]
  rw [cm _ ((c.toNat : Int) * 65536)]
  rw [bits_join .u32 32 (by decide) wr 16 ((c.toNat : Int) * 65536) ((b.toNat : Int) * 256 + (a.toNat : Int)) (by omega) (by omega) (by omega) (by omega) (by omega) (by omega)]
  rw [cm _ ((d.toNat : Int) * 16777216)]
  rw [bits_join .u32 32 (by decide) wr 24 ((d.toNat : Int) * 16777216) ((c.toNat : Int) * 65536 + ((b.toNat : Int) * 256 + (a.toNat : Int))) (by omega) (by omega) (by omega) (by omega) (by omega) (by omega)]
  unfold be
  rw [BitVec.toNat_ofNat]
  omega
theorem ch_eq (b c d : B32) : oo (an b c) (an (no b) d) = xo d (an b (xo c d)) := by
  unfold oo an no xo
  apply BitVec.eq_of_getLsbD_eq
  intro i hi
  simp only [BitVec.getLsbD_or, BitVec.getLsbD_and, BitVec.getLsbD_xor, BitVec.getLsbD_not, hi, decide_true, Bool.true_and]
  cases b.getLsbD i <;> cases c.getLsbD i <;> cases d.getLsbD i <;> rfl
theorem f5_0 (k : Nat) (b c d : B32) (h : k / 16 = 0) : f5 k b c d = oo (an b c) (an (no b) d) := by unfold f5; rw [if_pos h, ch_eq]
theorem f5_1 (k : Nat) (b c d : B32) (h : k / 16 = 1) : f5 k b c d = oo (an d b) (an (no d) c) := by unfold f5; rw [if_neg (by omega), if_pos h, ch_eq]
theorem f5_2 (k : Nat) (b c d : B32) (h : k / 16 = 2) : f5 k b c d = xo (xo b c) d := by unfold f5; rw [if_neg (by omega), if_neg (by omega), if_pos h]
theorem f5_3 (k : Nat) (b c d : B32) (h : k / 16 = 3) : f5 k b c d = xo c (oo b (no d)) := by unfold f5; rw [if_neg (by omega), if_neg (by omega), if_neg (by omega)]
theorem at5_0 (k : Nat) (h : k / 16 = 0) : at5 k % 16 = k := by unfold at5; rw [if_pos h]; omega
theorem at5_1 (k : Nat) (h : k / 16 = 1) : at5 k % 16 = (5 * k + 1) % 16 := by unfold at5; rw [if_neg (by omega), if_pos h]
theorem at5_2 (k : Nat) (h : k / 16 = 2) : at5 k % 16 = (3 * k + 5) % 16 := by unfold at5; rw [if_neg (by omega), if_neg (by omega), if_pos h]
theorem at5_3 (k : Nat) (h : k / 16 = 3) : at5 k % 16 = 7 * k % 16 := by unfold at5; rw [if_neg (by omega), if_neg (by omega), if_neg (by omega)]
theorem t_start (w : World) (cs : Array Value) :
    ∃ w3, w3 = (w.alloc (.cells cs 83)).setRow w.heap.size (arrM k5) ∧ w3.heap.size = w.heap.size + 1 ∧ ArrAt w3 w.heap.size k5 ∧ Q w w3 := by
  refine ⟨_, rfl, by simp, ⟨?_, rfl⟩, Q.setRow ((Q.refl w).alloc _) (Nat.le_refl _) _⟩
  simp only [World.setRow, Array.getElem?_modify, if_true]
  rw [heap_alloc_new]
  rfl
set_option maxRecDepth 100000 in
set_option maxHeartbeats 4000000 in
theorem table5_any (w : World) : Calls Try.prog 58 #[] w fun e w' => e = .returned (.agg (arrM k5)) ∧ Q w w' := by
  go_enter Try.func58, Try.ntmps58
  go_upto_region 1 with (fail)
  iterate 1 go_step
  refine build_const rfl 83 (partsOf k5) (arrM k5) (some _) rfl (by kernel_rfl) k5_built ?_
  refine wpList_store_row rfl 83 (.tmp 0) (.tmp 1) (by rfl) w.heap.size (arrM k5) (by rfl) (by rfl) 83 _ (heap_alloc_new w _) (by rw [arrM_size]; exact info64) rfl (arr_all _) ?_
  obtain ⟨w1, hw1, hs1, hA1, hq⟩ := t_start w _
  rw [← hw1]
  clear hw1
  have hr := hA1.1
  have HR := Lib.hid hr
  have HQ := Lib.hid hq
  clear hr hq hA1 hs1
  go_wp2_with fail
  refine bodyPost_ret (v := .agg (arrM k5)) ?_ rfl ⟨rfl, HQ.out⟩
  exact results_cell_row rfl _ _ w.heap.size 83 _ (0, 0) _ rfl HR.out Try.underlying83 rfl (by rw [arrM_size]; exact info64)
/-- Four numbers in a block of their own. -/
def A4At (w : World) (g : Nat) (l : List B32) : Prop := w.heap[g]? = some (.cells (arrM l) 89 (0, 0)) ∧ l.length = 4
theorem A4At.lt {w : World} {g : Nat} {l : List B32} (h : A4At w g l) : g < w.heap.size := lt_of_heap h.1
theorem A4At.cell {w : World} {g : Nat} {l : List B32} (h : A4At w g l) (i : Nat) (hi : i < 4) : w.cell? ⟨g, i, none⟩ = some (.int .u32 ((gW l i).toNat : Int)) := by
  rw [cell_of_row _ _ _ _ _ _ h.1]
  have h2 := h.2
  simp [arrM, u32V, gW, List.getD, h2, hi]
theorem A4At.frozen {w : World} {g : Nat} {l : List B32} (h : A4At w g l) (i : Nat) : w.frozen? ⟨g, i, none⟩ = false := frozen_of_row w g i _ _ h.1
theorem A4At.set {w : World} {g : Nat} {l : List B32} (h : A4At w g l) (i : Nat) (x : B32) : A4At (w.setCell ⟨g, i, none⟩ (.int .u32 (x.toNat : Int))) g (l.set i x) := by
  refine ⟨?_, by rw [List.length_set]; exact h.2⟩
  rw [heap_setCell_same w g i _ _ _ h.1]
  congr 2
  unfold arrM
  rw [← Array.toList_inj]
  simp [u32V, List.map_set]
theorem A4At.x {w w' : World} {g : Nat} {l : List B32} {S : List Nat} (h : A4At w g l) (hg : GX S w w') (hS : g ∉ S) : A4At w' g l := ⟨hg.heap hS h.1, h.2⟩
theorem A4At.q {w w' : World} {g : Nat} {l : List B32} (h : A4At w g l) (hq : Q w w') : A4At w' g l := ⟨hq.block h.1, h.2⟩
theorem infoA4 : (Try.prog.info? 89).map (·.size) = some 4 := by kernel_rfl
theorem a4_row {w : World} {g : Nat} {cs : Array Value} (h : w.heap[g]? = some (.cells cs 89 (0, 0))) (l : List B32) (hl : l.length = 4) : A4At (w.setRow g (arrM l)) g l := by
  refine ⟨?_, hl⟩
  simp only [World.setRow, Array.getElem?_modify, if_true]
  rw [h]
  rfl
theorem h_start4 (w : World) (cs : Array Value) (l : List B32) (hl : l.length = 4) :
    ∃ w3, w3 = (w.alloc (.cells cs 89)).setRow w.heap.size (arrM l) ∧ w3.heap.size = w.heap.size + 1 ∧ A4At w3 w.heap.size l ∧ Q w w3 := by
  refine ⟨_, rfl, by simp, ⟨?_, hl⟩, Q.setRow ((Q.refl w).alloc _) (Nat.le_refl _) _⟩
  simp only [World.setRow, Array.getElem?_modify, if_true]
  rw [heap_alloc_new]
  rfl
/-- By how many bits each round turns, in a slice's block. -/
def TurnL (w : World) (g : Nat) : Prop := w.heap[g]? = some (.cells turnsA 3 (0, 0))
theorem TurnL.lt {w : World} {g : Nat} (h : TurnL w g) : g < w.heap.size := lt_of_heap h
theorem TurnL.cell {w : World} {g : Nat} (h : TurnL w g) (i : Nat) (hi : i < 64) : w.cell? ⟨g, 4 * (i / 16) + i % 4, none⟩ = some (.int .i64 (rot5 i : Nat)) := by
  unfold World.cell?
  rw [h]
  exact turns_at i hi
theorem rot_pos : ∀ i : Nat, i < 64 → 0 < rot5 i := by decide +kernel
theorem word5_lo (P : List UInt8) (at_ k : Nat) : be (gB P (at_ + 4 * (at5 k % 16) + 3)) (gB P (at_ + 4 * (at5 k % 16) + 2)) (gB P (at_ + 4 * (at5 k % 16) + 1)) (gB P (at_ + 4 * (at5 k % 16))) = word5 (sub P at_ (at_ + 64)) k := by
  unfold word5
  have h : at5 k % 16 < 16 := Nat.mod_lt _ (by decide)
  generalize at5 k % 16 = A at *
  rw [gB_sub _ _ _ _ (by omega), gB_sub _ _ _ _ (by omega), gB_sub _ _ _ _ (by omega), gB_sub _ _ _ _ (by omega)]
  simp only [Nat.add_assoc]
end Go.Proofs.Yteadblkkbbhpjaa
