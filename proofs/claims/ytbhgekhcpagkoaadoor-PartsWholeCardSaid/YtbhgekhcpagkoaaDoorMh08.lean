/- Texts of this proof, laid into one: RfI2, RfJ2, PaK, PaM. -/
import Derived.Test.YtbhgekhcpagkoaaDoorMh07
import Derived.Deep.DeepCutAuto
import Derived.Deep.CutBlock
/- The reference's table of MD5, and small laws. -/
set_option linter.unusedVariables false
namespace Go.Proofs.YtbhgekhcpagkoaaDoor
open Go Go.RowKit
theorem le_bits (a b c d : UInt8) : bits .or .u32 (bits .or .u32 (bits .or .u32 ((a.toNat : Int) % 4294967296) ((b.toNat : Int) % 4294967296 * 256 % 4294967296)) ((c.toNat : Int) % 4294967296 * 65536 % 4294967296)) ((d.toNat : Int) % 4294967296 * 16777216 % 4294967296) =
    ((be d c b a).toNat : Int) := by
  have a1 := a.toNat_lt
  have b1 := b.toNat_lt
  have c1 := c.toNat_lt
  have d1 := d.toNat_lt
  have wr : ∀ n : Int, 0 ≤ n → n < 2 ^ 32 → IntKind.u32.wrap n = n := fun n h0 h1 => by rw [IntKind.wrap_u32]; omega
  have cm : ∀ x y : Int, bits .or .u32 x y = bits .or .u32 y x := by intro x y; simp only [bits]; rw [BitVec.or_comm]
  rw [show (d.toNat : Int) % 4294967296 * 16777216 % 4294967296 = (d.toNat : Int) * 16777216 from by omega, show (c.toNat : Int) % 4294967296 * 65536 % 4294967296 = (c.toNat : Int) * 65536 from by omega,
    show (b.toNat : Int) % 4294967296 * 256 % 4294967296 = (b.toNat : Int) * 256 from by omega, show (a.toNat : Int) % 4294967296 = (a.toNat : Int) from by omega]
  rw [cm (a.toNat : Int) _]
  rw [bits_join .u32 32 (by decide) wr 8 ((b.toNat : Int) * 256) (a.toNat : Int) (by omega) (by omega) (by omega) (by omega) (by omega) (by omega)]
  rw [cm _ ((c.toNat : Int) * 65536)]
  rw [bits_join .u32 32 (by decide) wr 16 ((c.toNat : Int) * 65536) ((b.toNat : Int) * 256 + (a.toNat : Int)) (by omega) (by omega) (by omega) (by omega) (by omega) (by omega)]
  rw [cm _ ((d.toNat : Int) * 16777216)]
  rw [bits_join .u32 32 (by decide) wr 24 ((d.toNat : Int) * 16777216) ((c.toNat : Int) * 65536 + ((b.toNat : Int) * 256 + (a.toNat : Int))) (by omega) (by omega) (by omega) (by omega) (by omega) (by omega)]
  unfold be
  rw [BitVec.toNat_ofNat]
  omega
theorem ch_eq (b c d : B32) : oo (an b c) (an (no b) d) = xo d (an b (xo c d)) := by
  unfold oo an no xo
  apply BitVec.eq_of_getLsbD_eq
  intro i hi
  simp only [BitVec.getLsbD_or, BitVec.getLsbD_and, BitVec.getLsbD_xor, BitVec.getLsbD_not, hi, decide_true, Bool.true_and]
  cases b.getLsbD i <;> cases c.getLsbD i <;> cases d.getLsbD i <;> rfl
theorem f5_0 (k : Nat) (b c d : B32) (h : k / 16 = 0) : f5 k b c d = oo (an b c) (an (no b) d) := by unfold f5; rw [if_pos h, ch_eq]
theorem f5_1 (k : Nat) (b c d : B32) (h : k / 16 = 1) : f5 k b c d = oo (an d b) (an (no d) c) := by unfold f5; rw [if_neg (by omega), if_pos h, ch_eq]
theorem f5_2 (k : Nat) (b c d : B32) (h : k / 16 = 2) : f5 k b c d = xo (xo b c) d := by unfold f5; rw [if_neg (by omega), if_neg (by omega), if_pos h]
theorem f5_3 (k : Nat) (b c d : B32) (h : k / 16 = 3) : f5 k b c d = xo c (oo b (no d)) := by unfold f5; rw [if_neg (by omega), if_neg (by omega), if_neg (by omega)]
theorem at5_0 (k : Nat) (h : k / 16 = 0) : at5 k % 16 = k := by unfold at5; rw [if_pos h]; omega
theorem at5_1 (k : Nat) (h : k / 16 = 1) : at5 k % 16 = (5 * k + 1) % 16 := by unfold at5; rw [if_neg (by omega), if_pos h]
theorem at5_2 (k : Nat) (h : k / 16 = 2) : at5 k % 16 = (3 * k + 5) % 16 := by unfold at5; rw [if_neg (by omega), if_neg (by omega), if_pos h]
theorem at5_3 (k : Nat) (h : k / 16 = 3) : at5 k % 16 = 7 * k % 16 := by unfold at5; rw [if_neg (by omega), if_neg (by omega), if_neg (by omega)]
theorem t_start (w : World) (cs : Array Value) :
    ∃ w3, w3 = (w.alloc (.cells cs 79)).setRow w.heap.size (arrM k5) ∧ w3.heap.size = w.heap.size + 1 ∧ ArrAt w3 w.heap.size k5 ∧ Q w w3 := by
  refine ⟨_, rfl, by simp, ⟨?_, rfl⟩, Q.setRow ((Q.refl w).alloc _) (Nat.le_refl _) _⟩
  simp only [World.setRow, Array.getElem?_modify, if_true]
  rw [heap_alloc_new]
  rfl
set_option maxRecDepth 100000 in
set_option maxHeartbeats 4000000 in
theorem table5_any (w : World) : Calls Tryd.prog 50 #[] w fun e w' => e = .returned (.agg (arrM k5)) ∧ Q w w' := by
  go_enter Tryd.func50, Tryd.ntmps50
  go_upto_region 1 with (fail)
  iterate 1 go_step
  refine build_const rfl 79 (partsOf k5) (arrM k5) (some _) rfl (by kernel_rfl) k5_built ?_
  refine wpList_store_row rfl 79 (.tmp 0) (.tmp 1) (by rfl) w.heap.size (arrM k5) (by rfl) (by rfl) 79 _ (heap_alloc_new w _) (by rw [arrM_size]; exact info64) rfl (arr_all _) ?_
  obtain ⟨w1, hw1, hs1, hA1, hq⟩ := t_start w _
  rw [← hw1]
  clear hw1
  have hr := hA1.1
  have HR := Lib.hid hr
  have HQ := Lib.hid hq
  clear hr hq hA1 hs1
  go_wp2_with fail
  refine bodyPost_ret (v := .agg (arrM k5)) ?_ rfl ⟨rfl, HQ.out⟩
  exact results_cell_row rfl _ _ w.heap.size 79 _ (0, 0) _ rfl HR.out Tryd.underlying79 rfl (by rw [arrM_size]; exact info64)
/-- Four numbers in a block of their own. -/
def A4At (w : World) (g : Nat) (l : List B32) : Prop := w.heap[g]? = some (.cells (arrM l) 81 (0, 0)) ∧ l.length = 4
theorem A4At.lt {w : World} {g : Nat} {l : List B32} (h : A4At w g l) : g < w.heap.size := lt_of_heap h.1
theorem A4At.cell {w : World} {g : Nat} {l : List B32} (h : A4At w g l) (i : Nat) (hi : i < 4) : w.cell? ⟨g, i, none⟩ = some (.int .u32 ((gW l i).toNat : Int)) := by
  rw [cell_of_row _ _ _ _ _ _ h.1]
  have h2 := h.2
  simp [arrM, u32V, gW, List.getD, h2, hi]
theorem A4At.frozen {w : World} {g : Nat} {l : List B32} (h : A4At w g l) (i : Nat) : w.frozen? ⟨g, i, none⟩ = false := frozen_of_row w g i _ _ h.1
theorem A4At.set {w : World} {g : Nat} {l : List B32} (h : A4At w g l) (i : Nat) (x : B32) : A4At (w.setCell ⟨g, i, none⟩ (.int .u32 (x.toNat : Int))) g (l.set i x) := by
  refine ⟨?_, by rw [List.length_set]; exact h.2⟩
  rw [heap_setCell_same w g i _ _ _ h.1]
  congr 2
  unfold arrM
  rw [← Array.toList_inj]
  simp [u32V, List.map_set]
theorem A4At.x {w w' : World} {g : Nat} {l : List B32} {S : List Nat} (h : A4At w g l) (hg : GX S w w') (hS : g ∉ S) : A4At w' g l := ⟨hg.heap hS h.1, h.2⟩
theorem A4At.q {w w' : World} {g : Nat} {l : List B32} (h : A4At w g l) (hq : Q w w') : A4At w' g l := ⟨hq.block h.1, h.2⟩
theorem infoA4 : (Tryd.prog.info? 81).map (·.size) = some 4 := by kernel_rfl
theorem a4_row {w : World} {g : Nat} {cs : Array Value} (h : w.heap[g]? = some (.cells cs 81 (0, 0))) (l : List B32) (hl : l.length = 4) : A4At (w.setRow g (arrM l)) g l := by
  refine ⟨?_, hl⟩
  simp only [World.setRow, Array.getElem?_modify, if_true]
  rw [h]
  rfl
theorem h_start4 (w : World) (cs : Array Value) (l : List B32) (hl : l.length = 4) :
    ∃ w3, w3 = (w.alloc (.cells cs 81)).setRow w.heap.size (arrM l) ∧ w3.heap.size = w.heap.size + 1 ∧ A4At w3 w.heap.size l ∧ Q w w3 := by
  refine ⟨_, rfl, by simp, ⟨?_, hl⟩, Q.setRow ((Q.refl w).alloc _) (Nat.le_refl _) _⟩
  simp only [World.setRow, Array.getElem?_modify, if_true]
  rw [heap_alloc_new]
  rfl
/-- By how many bits each round turns, in a slice's block. -/
def TurnL (w : World) (g : Nat) : Prop := w.heap[g]? = some (.cells turnsA 3 (0, 0))
theorem TurnL.lt {w : World} {g : Nat} (h : TurnL w g) : g < w.heap.size := lt_of_heap h
theorem TurnL.cell {w : World} {g : Nat} (h : TurnL w g) (i : Nat) (hi : i < 64) : w.cell? ⟨g, 4 * (i / 16) + i % 4, none⟩ = some (.int .i64 (rot5 i : Nat)) := by
  unfold World.cell?
  rw [h]
  exact turns_at i hi
theorem rot_pos : ∀ i : Nat, i < 64 → 0 < rot5 i := by decide +kernel
theorem word5_lo (P : List UInt8) (at_ k : Nat) : be (gB P (at_ + 4 * (at5 k % 16) + 3)) (gB P (at_ + 4 * (at5 k % 16) + 2)) (gB P (at_ + 4 * (at5 k % 16) + 1)) (gB P (at_ + 4 * (at5 k % 16))) = word5 (sub P at_ (at_ + 64)) k := by
  unfold word5
  have h : at5 k % 16 < 16 := Nat.mod_lt _ (by decide)
  generalize at5 k % 16 = A at *
  rw [gB_sub _ _ _ _ (by omega), gB_sub _ _ _ _ (by omega), gB_sub _ _ _ _ (by omega), gB_sub _ _ _ _ (by omega)]
  simp only [Nat.add_assoc]
end Go.Proofs.YtbhgekhcpagkoaaDoor
/- The reference's MD5. -/
set_option linter.unusedVariables false
namespace Go.Proofs.YtbhgekhcpagkoaaDoor
open Go Go.RowKit
set_option maxRecDepth 100000 in
set_option maxHeartbeats 40000000 in
theorem Sum5R_any (l : List UInt8) (w : World) (hl : l.length ≤ 140737488355500) :
    Calls Tryd.prog 38 #[.string ⟨l.toArray⟩] w fun e w' => e = .returned (.string ⟨(md l).toArray⟩) ∧ Q w w' := by
  go_enter Tryd.func38, Tryd.ntmps38
  go_wp2_with fail
  with_reducible refine (table5_any _).mono ?_
  rintro e w0 ⟨rfl, hq0⟩
  have HQ0 := Lib.hid hq0
  clear hq0
  go_upto_region 2 with (refine wpList_store_row rfl 79 (.tmp 3) (.tmp 16) (by rfl) w0.heap.size (arrM k5) (by rfl) (by rfl) 79 _ (heap_alloc_new w0 _) (by rw [arrM_size]; exact info64) rfl (arr_all _) ?_)
  obtain ⟨w1, hw1, hs1, hK1, hq1⟩ := t_start w0 _
  rw [← hw1]
  clear hw1
  have HQ0' := Lib.hid (HQ0.out.trans hq1)
  have HK1 := Lib.hid hK1
  have HQ1 := Lib.hid (HQ0.out.trans hq1)
  have HS1 := Lib.hid hs1
  clear hK1 hq1 HQ0 hs1
  go_upto_region 3 with (fail)
  obtain ⟨w2, hw2, hT2, hq2, hs2⟩ : ∃ w2, w2 = w1.alloc (.cells turnsA 3) ∧ TurnL w2 w1.heap.size ∧ Q w1 w2 ∧ w2.heap.size = w1.heap.size + 1 := ⟨_, rfl, heap_alloc_new w1 _, (Q.refl w1).alloc _, by simp⟩
  refine Eq.mp (congrArg _ hw2) ?_
  clear hw2
  have HT2 := Lib.hid hT2
  have HK2 := Lib.hid (HK1.out.q hq2)
  have HQ2 := Lib.hid (HQ1.out.trans hq2)
  have HS2 := Lib.hid hs2
  clear hT2 hq2 hs2 HK1 HQ1
  go_upto_region 4 with (refine wpList_store_row rfl 81 (.tmp 5) (.tmp 18) (by rfl) w2.heap.size (arrM start5.list) (by rfl) (by rfl) 81 _ (heap_alloc_new w2 _) (by rw [arrM_size]; exact infoA4) rfl (arr_all _) ?_)
  obtain ⟨w2', hw2', hs2', hA2, hq2'⟩ := h_start4 w2 _ start5.list rfl
  rw [← hw2']
  clear hw2'
  have HA := Lib.hid hA2
  have HT := Lib.hid (show TurnL w2' w1.heap.size from hq2'.block HT2.out)
  have HK := Lib.hid (HK2.out.q hq2')
  have HQ := Lib.hid (HQ2.out.trans hq2')
  have hg1 : w2.heap.size < w2'.heap.size := by omega
  have hg0 : w0.heap.size < w1.heap.size := by rw [HS1.out]; omega
  have hg2 : w1.heap.size < w2.heap.size := by rw [HS2.out]; omega
  clear hA2 hs2' hq2' HT2 HK2 HQ2
  have hwh : w.heap.size ≤ w2.heap.size := by have := HQ0'.out.size; omega
  generalize w2.heap.size = gh at *
  generalize w1.heap.size = gt at *
  generalize w0.heap.size = gk at *
  go_wp2_with fail
  with_reducible refine (padded_any l false _ hl).mono ?_
  rintro e w3 ⟨vb, rfl, hown, hq3⟩
  obtain ⟨bg, cb, hvb, hbg, hcb, hcb2, hbc⟩ := hown.pos (by rw [padA_length]; omega)
  have hsha : md l = (blocksA alg5 (padA false l) ((padA false l).length / 64)).flatMap (outW false) := rfl
  have hpl := padA_length false l
  have hpm := padA_mod false l
  generalize padA false l = PB at *
  rw [hvb]
  obtain ⟨NB, hNB⟩ : ∃ NB, PB.length = 64 * NB := ⟨PB.length / 64, by omega⟩
  rw [show PB.length / 64 = NB from by omega] at hsha
  have hNL : NB ≤ 2199023255558 := by unfold fillN at hpl; omega
  obtain ⟨PL, hPL⟩ : ∃ PL, PL = PB.length := ⟨_, rfl⟩
  rw [← hPL] at hcb hbc ⊢
  have hPL2 : PL = 64 * NB := by omega
  have hPL3 : PL ≤ 140737488355712 := by omega
  have hPL4 : 0 < PL := by unfold fillN at hpl; omega
  have HSHA := Lib.hid hsha
  have HBC := Lib.hid hbc
  have HPB := Lib.hid hNB
  have HA3 := Lib.hid (HA.out.q hq3)
  have HT3 := Lib.hid (show TurnL w3 gt from hq3.block HT.out)
  have HK3 := Lib.hid (HK.out.q hq3)
  have HQ3 := Lib.hid (HQ.out.trans hq3)
  have hg3 : gh < w3.heap.size := Nat.lt_of_lt_of_le hg1 hq3.size
  have hbl : bg < w3.heap.size := lt_of_cell (hbc 0 hPL4).1
  have HPL := Lib.hid hPL2
  have hb1 : gh < bg := by omega
  clear hvb hown hq3 HA HT HK HQ hsha hbc hNB hpl hpm hg1 hPL hPL2 vb
  go_wp2_with fail
  go_loopw [7] (fun at_ wr => ∃ m : Nat, m ≤ NB ∧ at_ = .int .i64 (64 * m : Nat) ∧ A4At wr gh (blocksA alg5 PB m) ∧ GX [gh] w3 wr) (fun at_ _ => PL - (intOf at_).toNat)
  case atStart => exact ⟨0, by omega, rfl, HA3.out, GX.refl _ _⟩
  case round =>
    obtain ⟨m, hm, rfl, hA, hG⟩ := hrel
    by_cases hlt : m < NB
    · obtain ⟨at_, hat⟩ : ∃ at_, at_ = 64 * m := ⟨_, rfl⟩
      rw [← hat]
      have hat2 : at_ + 64 ≤ PL := by rw [HPL.out]; omega
      have hd : decide (at_ < PL) = true := by simp; omega
      have HAT := Lib.hid hat
      have hsz3 := hG.size
      have hHl := hA.2
      have hmx : blocksA alg5 PB (m + 1) = (mix5L (of4 (blocksA alg5 PB m)) (sub PB at_ (at_ + 64))).list := by rw [hat]; rfl
      have hst := of4_list _ hHl
      have HAA := Lib.hid hA
      have HGG := Lib.hid hG
      clear hat hA hG HA3
      go_upto_region 8 with (fail)
      iterate 1 go_step
      refine wpList_load_row rfl 81 (.tmp 5) rfl gh (by rfl) _ _ _ _ HAA.out.1 Tryd.underlying81 rfl (by rw [arrM_size, HAA.out.2]; exact infoA4) ?_
      iterate 3 go_step
      refine wpList_store_row rfl 81 (.tmp 8) (.tmp 27) rfl wr.heap.size (arrM (blocksA alg5 PB m)) (by rfl) (by rfl) 81 _ (heap_alloc_new wr _) (by rw [arrM_size, HAA.out.2]; exact infoA4) (by rw [arrM_size, HAA.out.2]; rfl) (arr_all _) ?_
      obtain ⟨w6, hw6, hs6, hV6, hq6⟩ := h_start4 wr _ (blocksA alg5 PB m) HAA.out.2
      rw [← hw6]
      clear hw6
      generalize blocksA alg5 PB m = ST at *
      obtain ⟨s, hs⟩ : ∃ s, s = of4 ST := ⟨_, rfl⟩
      rw [← hs] at hmx hst
      generalize hbb : sub PB at_ (at_ + 64) = b' at *
      have hwv : w3.heap.size ≤ wr.heap.size := HGG.out.size
      have hwr6 : wr.heap.size < w6.heap.size := by omega
      have HV6 := Lib.hid hV6
      have HG6 := Lib.hid (HGG.out.trans (GX.q hq6))
      have HAA6 := Lib.hid (HAA.out.q hq6)
      have HMX := Lib.hid hmx
      have HST := Lib.hid hst
      have HBB := Lib.hid hbb
      have HGP := Lib.hid HGG.out
      have HQP := Lib.hid hq6
      clear hV6 hq6 hs6 hHl hmx hst hs hbb HAA HGG
      go_wp2_with fail
      obtain ⟨wp, rfl⟩ : ∃ wp : World, wp = wr := ⟨_, rfl⟩
      obtain ⟨vg, hvg⟩ : ∃ vg, vg = wp.heap.size := ⟨_, rfl⟩
      rw [← hvg]
      have HV6' : Hid (A4At w6 vg ST) := Lib.hid (by rw [hvg]; exact HV6.out)
      have hvg1 : vg < w6.heap.size := by omega
      have hvg0 : wp.heap.size ≤ vg := by omega
      have hvg2 : w3.heap.size ≤ vg := by omega
      clear hvg HV6 hwv hwr6
      go_loopw [9] (fun i wz => ∃ k : Nat, k ≤ 64 ∧ i = .int .i64 k ∧ A4At wz vg (rounds5 b' s k).list ∧ GX [vg] w6 wz) (fun i _ => 64 - (intOf i).toNat)
      case atStart => exact ⟨0, by omega, rfl, by show A4At _ _ s.list; rw [HST.out]; exact HV6'.out, GX.refl _ _⟩
      case round =>
        obtain ⟨k, hk, rfl, hV, hG⟩ := hrel
        by_cases hk64 : k < 64
        · have hd64 : decide ((k : Int) < 64) = true := by simp; omega
          have hRs : rounds5 b' s (k + 1) = round5 b' (rounds5 b' s k) k := rfl
          generalize rounds5 b' s k = R at *
          have v0 : wr.cell? ⟨vg, 0, none⟩ = some (.int .u32 (R.a.toNat : Int)) := hV.cell 0 (by decide)
          have v1 : wr.cell? ⟨vg, 1, none⟩ = some (.int .u32 (R.b.toNat : Int)) := hV.cell 1 (by decide)
          have v2 : wr.cell? ⟨vg, 2, none⟩ = some (.int .u32 (R.c.toNat : Int)) := hV.cell 2 (by decide)
          have v3 : wr.cell? ⟨vg, 3, none⟩ = some (.int .u32 (R.d.toNat : Int)) := hV.cell 3 (by decide)
          have HRS := Lib.hid hRs
          have HV := Lib.hid hV
          have HG := Lib.hid hG
          clear hRs hV hG HV6'
          go_upto_block 4 with (fail)
          go_cut [10, 11] (fun f g wx => f = .int .u32 ((f5 k R.b R.c R.d).toNat : Int) ∧ g = .int .i64 (at5 k % 16 : Nat) ∧ wr = wx)
          case first =>
            --[
            by_cases q0 : k / 16 = 0
            · have hF := f5_0 k R.b R.c R.d q0
              have hA := at5_0 k q0
              have t0 : ((k : Int) / 16 == 0) = true := by simp; omega
              have n1 : bits .xor .u32 (R.b.toNat : Int) 4294967295 = ((no R.b).toNat : Int) := xor_ones _
              have x1 : bits .and .u32 (R.b.toNat : Int) (R.c.toNat : Int) = ((an R.b R.c).toNat : Int) := and32 _ _
              have x2 : bits .and .u32 ((no R.b).toNat : Int) (R.d.toNat : Int) = ((an (no R.b) R.d).toNat : Int) := and32 _ _
              have x3 : bits .or .u32 ((an R.b R.c).toNat : Int) ((an (no R.b) R.d).toNat : Int) = ((oo (an R.b R.c) (an (no R.b) R.d)).toNat : Int) := or32 _ _
              have HF := Lib.hid hF
              have HA := Lib.hid hA
              clear hF hA q0
              go_wp2_with fail
              go_meet
              case rel => exact ⟨by rw [HF.out], by rw [HA.out], rfl⟩
            · by_cases q1 : k / 16 = 1
              · have hF := f5_1 k R.b R.c R.d q1
                have hA := at5_1 k q1
                have t0 : ((k : Int) / 16 == 0) = false := by simp; omega
                have t1 : ((k : Int) / 16 == 1) = true := by simp; omega
                have n1 : bits .xor .u32 (R.d.toNat : Int) 4294967295 = ((no R.d).toNat : Int) := xor_ones _
                have x1 : bits .and .u32 (R.d.toNat : Int) (R.b.toNat : Int) = ((an R.d R.b).toNat : Int) := and32 _ _
                have x2 : bits .and .u32 ((no R.d).toNat : Int) (R.c.toNat : Int) = ((an (no R.d) R.c).toNat : Int) := and32 _ _
                have x3 : bits .or .u32 ((an R.d R.b).toNat : Int) ((an (no R.d) R.c).toNat : Int) = ((oo (an R.d R.b) (an (no R.d) R.c)).toNat : Int) := or32 _ _
                have HF := Lib.hid hF
                have HA := Lib.hid hA
                clear hF hA q0 q1
                go_wp2_with fail
                go_meet
                case rel => exact ⟨by rw [HF.out], by rw [HA.out]; go_num, rfl⟩
              · by_cases q2 : k / 16 = 2
                · have hF := f5_2 k R.b R.c R.d q2
                  have hA := at5_2 k q2
                  have t0 : ((k : Int) / 16 == 0) = false := by simp; omega
                  have t1 : ((k : Int) / 16 == 1) = false := by simp; omega
                  have t2 : ((k : Int) / 16 == 2) = true := by simp; omega
                  have x1 : bits .xor .u32 (R.b.toNat : Int) (R.c.toNat : Int) = ((xo R.b R.c).toNat : Int) := xor32 _ _
                  have x2 : bits .xor .u32 ((xo R.b R.c).toNat : Int) (R.d.toNat : Int) = ((xo (xo R.b R.c) R.d).toNat : Int) := xor32 _ _
                  have HF := Lib.hid hF
                  have HA := Lib.hid hA
                  clear hF hA q0 q1 q2
                  go_wp2_with fail
                  go_meet
                  case rel => exact ⟨by rw [HF.out], by rw [HA.out]; go_num, rfl⟩
                · have hF := f5_3 k R.b R.c R.d (by omega)
                  have hA := at5_3 k (by omega)
                  have t0 : ((k : Int) / 16 == 0) = false := by simp; omega
                  have t1 : ((k : Int) / 16 == 1) = false := by simp; omega
                  have t2 : ((k : Int) / 16 == 2) = false := by simp; omega
                  have n1 : bits .xor .u32 (R.d.toNat : Int) 4294967295 = ((no R.d).toNat : Int) := xor_ones _
                  have x1 : bits .or .u32 (R.b.toNat : Int) ((no R.d).toNat : Int) = ((oo R.b (no R.d)).toNat : Int) := or32 _ _
                  have x2 : bits .xor .u32 (R.c.toNat : Int) ((oo R.b (no R.d)).toNat : Int) = ((xo R.c (oo R.b (no R.d))).toNat : Int) := xor32 _ _
                  have HF := Lib.hid hF
                  have HA := Lib.hid hA
                  clear hF hA q0 q1 q2
                  go_wp2_with fail
                  go_meet
                  case rel => exact ⟨by rw [HF.out], by rw [HA.out]; go_num, rfl⟩
            --]
          case rest =>
            obtain ⟨rfl, rfl, rfl⟩ := hcut
            obtain ⟨A, hA⟩ : ∃ A, A = at5 k % 16 := ⟨_, rfl⟩
            have hW5 := word5_lo PB at_ k
            rw [← hA, HBB.out] at hW5
            rw [← hA]
            have hA16 : A < 16 := by omega
            have hbg6 : bg < w6.heap.size := Nat.lt_of_lt_of_le hbl HG6.out.size
            have hc : ∀ j, j < 4 → wr.cell? ⟨bg, at_ + 4 * A + j, none⟩ = some (.int .u8 ((gB PB (at_ + 4 * A + j)).toNat : Int)) := by
              intro j hj
              have h1 := (HBC.out (at_ + 4 * A + j) (by omega)).1
              have h2 : w6.cell? ⟨bg, at_ + 4 * A + j, none⟩ = w3.cell? ⟨bg, at_ + 4 * A + j, none⟩ := World.cell?_of_block (HG6.out.block bg hbl (by simp; omega))
              have h3 : wr.cell? ⟨bg, at_ + 4 * A + j, none⟩ = w6.cell? ⟨bg, at_ + 4 * A + j, none⟩ := World.cell?_of_block (HG.out.block bg hbg6 (by simp; omega))
              exact (h3.trans h2).trans h1
            have c0 := hc 0 (by omega)
            have c1 := hc 1 (by omega)
            have c2 := hc 2 (by omega)
            have c3 := hc 3 (by omega)
            rw [Nat.add_zero] at c0
            have ck := ((HK3.out.x HG6.out (by simp; omega)).x HG.out (by simp; omega)).cell k hk64
            have hT : TurnL wr gt := HG.out.heap (by simp; omega) (HG6.out.heap (by simp; omega) HT3.out)
            have ct := hT.cell k hk64
            have hrp := rot_pos k hk64
            have hrl := rot_lt k hk64
            generalize hFF : f5 k R.b R.c R.d = FF at *
            generalize hKK : gW k5 k = KK at *
            generalize hWW : word5 b' k = WW at *
            have hNR := round5_eq b' R k FF KK WW hFF hKK hWW
            have HNR := Lib.hid hNR
            have HW5 := Lib.hid hW5
            have V0 := Lib.hid v0
            have V1 := Lib.hid v1
            have V2 := Lib.hid v2
            have V3 := Lib.hid v3
            have CK := Lib.hid ck
            have CT := Lib.hid ct
            have y0 := fun m : QW wr => m.cell c0
            have y1 := fun m : QW wr => m.cell c1
            have y2 := fun m : QW wr => m.cell c2
            have y3 := fun m : QW wr => m.cell c3
            clear hNR hW5 hFF hKK hWW v0 v1 v2 v3 ck ct hT c0 c1 c2 c3 hc hA
            go_upto_region 26 with (fail)
            refine wp_region_q (by kernel_rfl) (by kernel_rfl) ?_
            (repeat (go_big_quiet_step (fail)))
            refine wpQuiet_nil ?_
            rintro wx ⟨mx, hmx⟩
            have hqx : Q wr wx := by rw [hmx]; exact mx.le
            clear hmx mx y0 y1 y2 y3
            rw [le_bits, HW5.out]
            go_upto_region 27 with (fail)
            have e1 : ((FF.toNat : Int) + (R.a.toNat : Int)) % 4294967296 = ((ad R.a FF).toNat : Int) := by rw [Int.add_comm]; exact (ad_val _ _).symm
            have e2 : (((ad R.a FF).toNat : Int) + (KK.toNat : Int)) % 4294967296 = ((ad (ad R.a FF) KK).toNat : Int) := (ad_val _ _).symm
            have e3 : (((ad (ad R.a FF) KK).toNat : Int) + (WW.toNat : Int)) % 4294967296 = ((ad (ad (ad R.a FF) KK) WW).toNat : Int) := (ad_val _ _).symm
            have z0 := hqx.cell V0.out
            have zk := hqx.cell CK.out
            have y0 := fun m : QW wx => m.cell z0
            have yk := fun m : QW wx => m.cell zk
            clear z0 zk
            refine wp_region_q (by kernel_rfl) (by kernel_rfl) ?_
            (repeat (go_big_quiet_step (fail)))
            refine wpQuiet_nil ?_
            rintro wy ⟨my, hmy⟩
            have hqy : Q wr wy := by rw [hmy]; exact hqx.trans my.le
            clear hmy my y0 yk e1 e2
            rw [e3]
            clear e3 hqx
            go_upto_region 28 with (fail)
            generalize ad (ad (ad R.a FF) KK) WW = SS at *
            have e4 : ((R.b.toNat : Int) + ((rl (rot5 k) SS).toNat : Int)) % 4294967296 = ((ad R.b (rl (rot5 k) SS)).toNat : Int) := (ad_val _ _).symm
            have z1 := hqy.cell V1.out
            have z2 := hqy.cell V2.out
            have z3 := hqy.cell V3.out
            have zt := hqy.cell CT.out
            have y1 := fun m : QW wy => m.cell z1
            have y2 := fun m : QW wy => m.cell z2
            have y3 := fun m : QW wy => m.cell z3
            have yt := fun m : QW wy => m.cell zt
            clear z1 z2 z3 zt
            refine wp_region_q_tail 21 (by kernel_rfl) (by kernel_rfl) ?_
            simp only [List.take_succ_cons, List.take_zero, List.drop_succ_cons, List.drop_zero]
            (repeat (go_big_quiet_step ((go_at_call 52; exact calls_q (left01_any _ (rot5 k) _ hrp hrl)))))
            refine wpQuiet_nil ?_
            rintro wz ⟨mz, hmz⟩
            have hqz : Q wr wz := by rw [hmz]; exact hqy.trans mz.le
            clear hmz mz y1 y2 y3 yt hqy
            rw [e4]
            clear e4
            refine wpList_store_row rfl 81 (.tmp 8) (.tmp 164) rfl vg (arrM (St4.mk R.d (ad R.b (rl (rot5 k) SS)) R.b R.c).list) (by rfl) (by rfl) 81 _ (hqz.block HV.out.1) (by rw [arrM_size]; exact infoA4) (by rw [arrM_size, HV.out.2]; rfl) (arr_all _) ?_
            rw [← HNR.out]
            have hWY := GX.setRow ((HG.out).trans (GX.q hqz)) (g := vg) (by simp) (arrM (round5 b' R k).list)
            have hV9 := a4_row (g := vg) (hqz.block HV.out.1) (round5 b' R k).list rfl
            generalize wz.setRow vg (arrM (round5 b' R k).list) = wf at *
            have HWY := Lib.hid hWY
            have HV9 := Lib.hid hV9
            clear hWY hV9 hqz
            go_wp2_with fail
            go_roundw
            case rel => exact ⟨k + 1, by omega, by go_num, by rw [HRS.out]; exact HV9.out, HWY.out⟩
            case measure => simp [intOf]; omega
        · obtain rfl : k = 64 := by omega
          rw [show ((64 : Nat) : Int) = 64 from rfl]
          have hd64 : decide ((64 : Int) < 64) = false := by decide
          have hR : mix5L s b' = add4 s (rounds5 b' s 64) := rfl
          generalize rounds5 b' s 64 = R at *
          have hA9 := HAA6.out.x hG (by simp; omega)
          rw [← HST.out] at hA9
          have hG9 : GX [gh] w3 wr := HGP.out.trans (GX.q (hG.toQ HQP.out (by intro k hk; simp at hk; omega)))
          have HR := Lib.hid hR
          have HVV := Lib.hid hV
          have HA9 := Lib.hid hA9
          have HG9 := Lib.hid hG9
          clear hR hV hA9 hG9 hG HV6'
          go_wp2_with fail
          go_loopw [13] (fun i wz => ∃ k : Nat, k ≤ 4 ∧ i = .int .i64 k ∧ A4At wz gh (addP s.list R.list k) ∧ GX [gh] wr wz) (fun i _ => 4 - (intOf i).toNat)
          case atStart => exact ⟨0, by omega, rfl, HA9.out, GX.refl _ _⟩
          case round =>
            obtain ⟨k, hk, rfl, hA, hG⟩ := hrel
            by_cases hk8 : k < 4
            · have hd8 : decide ((k : Int) < 4) = true := by simp; omega
              have c1 := hA.cell k hk8
              rw [addP_old _ _ _ _ (Nat.le_refl k)] at c1
              have c2 := (HVV.out.x hG (by simp; omega)).cell k hk8
              have HA8 := Lib.hid hA
              have HGZ := Lib.hid hG
              clear hA hG
              go_upto_region 32 with (fail)
              have y1 := fun m : QW wr => m.cell c1
              have y2 := fun m : QW wr => m.cell c2
              clear c1 c2
              refine wp_region_q_tail 9 (by kernel_rfl) (by kernel_rfl) ?_
              simp only [List.take_succ_cons, List.take_zero, List.drop_succ_cons, List.drop_zero]
              (repeat (go_big_quiet_step (fail)))
              refine wpQuiet_nil ?_
              rintro wx ⟨mx, hmx⟩
              have hqx : Q wr wx := by rw [hmx]; exact mx.le
              clear hmx mx y1 y2
              have hAx := HA8.out.x (GX.q (S := []) hqx) (by simp)
              have hc := hAx.cell k hk8
              have hf := hAx.frozen k
              have HAX := Lib.hid hAx
              have HGX := Lib.hid (HGZ.out.trans (GX.q hqx))
              clear hAx hqx
              go_wp2_with fail
              go_roundw
              case rel =>
                refine ⟨k + 1, by omega, by go_num, ?_, GX.set HGX.out (by simp) _ _⟩
                have e1 := A4At.set HAX.out k (ad (gW s.list k) (gW R.list k))
                rw [ad_val] at e1
                exact e1
              case measure => simp [intOf]; omega
            · obtain rfl : k = 4 := by omega
              rw [show ((4 : Nat) : Int) = 4 from rfl]
              have hd8 : decide ((4 : Int) < 4) = false := by decide
              have e4 : addP s.list R.list 4 = (add4 s R).list := rfl
              rw [e4, ← HR.out, ← HMX.out] at hA
              have HA8 := Lib.hid hA
              have HGZ := Lib.hid (HG9.out.trans hG)
              clear hA hG HG9 HA9 HVV e4
              go_wp2_with fail
              go_roundw
              case rel => exact ⟨m + 1, by omega, by rw [HAT.out]; go_num, HA8.out, HGZ.out⟩
              case measure => simp [intOf]; omega
    · obtain rfl : m = NB := by omega
      rw [← HPL.out]
      have hd : decide (PL < PL) = false := by simp
      have HAA := Lib.hid hA
      have HG3 := Lib.hid hG
      have hHl := HAA.out.2
      generalize blocksA alg5 PB m = ST at *
      have hq4 : Q w wr := hG.toQ HQ3.out (by intro k hk; simp at hk; omega)
      have HQ4 := Lib.hid hq4
      clear hA hG HA3 hq4
      go_wp2_with fail
      obtain ⟨wq, rfl⟩ : ∃ wq : World, wq = wr := ⟨_, rfl⟩
      go_loopw [14, 15] (fun v i wz => ∃ k : Nat, k ≤ 4 ∧ i = .int .i64 k ∧ OwnB wq wz v ((ST.take k).flatMap (outW false)) ∧ Q wq wz) (fun _ i _ => 4 - (intOf i).toNat)
      case atStart => exact ⟨0, by omega, rfl, OwnB.nil _ _, Q.refl _⟩
      case round =>
        obtain ⟨k, hk, rfl, hO, hq⟩ := hrel
        by_cases hk8 : k < 4
        · have hd8 : decide ((k : Int) < 4) = true := by simp; omega
          have ca := HAA.out.cell k hk8
          have c1 := hq.cell ca
          have hfl : ((ST.take k).flatMap (outW false)).length ≤ 32 := by rw [flat_length, List.length_take]; omega
          have hsn : (ST.take (k + 1)).flatMap (outW false) = (ST.take k).flatMap (outW false) ++ outW false (gW ST k) := by
            rw [List.take_succ_eq_append_getElem (by rw [hHl]; exact hk8), List.flatMap_append]
            simp [gW, List.getD, hHl, hk8]
          generalize gW ST k = X at *
          generalize (ST.take k).flatMap (outW false) = F at *
          have b3 := shr8 X.toNat 3
          have b2 := shr8 X.toNat 2
          have b1 := shr8 X.toNat 1
          have b0 := shr8 X.toNat 0
          have ho : outW false X = [byN X.toNat 0, byN X.toNat 1, byN X.toNat 2, byN X.toNat 3] := rfl
          rw [ho] at hsn
          simp only [Nat.reduceMul, Int.reducePow, Int.pow_zero, Int.ediv_one, Nat.mul_zero] at b3 b2 b1 b0
          generalize byN X.toNat 3 = B3 at *
          generalize byN X.toNat 2 = B2 at *
          generalize byN X.toNat 1 = B1 at *
          generalize byN X.toNat 0 = B0 at *
          have b4 : (X.toNat : Int) / 16777216 = (B3.toNat : Int) := by rw [← b3]; have := X.isLt; omega
          have HSN := Lib.hid hsn
          have HO := Lib.hid hO
          have HQQ := Lib.hid hq
          clear hsn ho hO hq
          go_upto_region 37 with (fail)
          have p3 : IntKind.u8.wrap ((X.toNat : Int) / 16777216) = (B3.toNat : Int) := by rw [IntKind.wrap_u8]; exact b3
          have p2 : IntKind.u8.wrap ((X.toNat : Int) / 65536) = (B2.toNat : Int) := by rw [IntKind.wrap_u8]; exact b2
          have p1 : IntKind.u8.wrap ((X.toNat : Int) / 256) = (B1.toNat : Int) := by rw [IntKind.wrap_u8]; exact b1
          have p0 : IntKind.u8.wrap (X.toNat : Int) = (B0.toNat : Int) := by rw [IntKind.wrap_u8]; exact b0
          clear b4 b3 b2 b1 b0
          have i0 : (0 : Int) ≤ (k : Int) := by omega
          have i1 : (k : Int) < 4 := by omega
          have HCA := Lib.hid ca
          clear ca
          have HOX := Lib.hid (HO.out.q (Q.refl wr).drew)
          have HQX := Lib.hid HQQ.out.drew
          go_region_held3 (fun w' => w'.cell? ⟨gh, k, none⟩ = some (.int .u32 (X.toNat : Int))) (first | go_keep | exact hq2.cell HCA.out) ((refine step_append_b (by rfl) (.tmp 182) (.tmp 202) (by rfl) wq wr.drew _ F (by rfl) HOX.out HQX.out [B0, B1, B2, B3] 4 rfl (by rfl) (by omega) ?_; intro v2 w9 hown2 hq2 _))
          have HO2 := Lib.hid hown2
          have HQ2 := Lib.hid hq2
          clear hown2 hq2
          go_wp2_with fail
          clear p3 p2 p1 p0
          go_roundw
          case rel => exact ⟨k + 1, by omega, by go_num, by rw [HSN.out]; exact HO2.out, HQ2.out⟩
          case measure => simp [intOf]; omega
        · obtain rfl : k = 4 := by omega
          rw [show ((4 : Nat) : Int) = 4 from rfl]
          have hd8 : decide ((4 : Int) < 4) = false := by decide
          rw [List.take_of_length_le (by omega), ← HSHA.out] at hO
          have hcv := conv_b hO
          have HQQ := Lib.hid (HQ4.out.trans hq)
          clear hO hq
          go_wp2_with fail
          go_ret
          exact ⟨rfl, HQQ.out⟩
end Go.Proofs.YtbhgekhcpagkoaaDoor
/- ETag of parts. -/
set_option linter.unusedVariables false
set_option linter.unusedSimpArgs false
namespace Go.Proofs.YtbhgekhcpagkoaaDoor
open Go Go.RowKit
def tagsL (ps : List PartD) : List UInt8 := ps.flatMap fun p => sumT p.tag
def etagB (ps : List PartD) : Bool := ps.all (fun p => sumB p.tag) && !ps.isEmpty
def etagL (ps : List PartD) : List UInt8 := hexL (md (tagsL ps)) ++ [45] ++ Lib.decDigits ps.length
theorem sumT_len {t : List UInt8} (h : sumB t = true) : (sumT t).length = 16 := by
  unfold sumB at h; simp only [Bool.and_eq_true, decide_eq_true_eq] at h; exact h.2
theorem tags_len (ps : List PartD) (k : Nat) (h : ∀ j, j < k → sumB (gP ps j).tag = true) (hk : k ≤ ps.length) : (tagsL (ps.take k)).length = 16 * k := by
  induction k with
  | zero => simp [tagsL]
  | succ k ih =>
    have hts : ps.take (k + 1) = ps.take k ++ [gP ps k] := by rw [List.take_succ_eq_append_getElem (by omega)]; simp [gP, List.getD, (show k < ps.length by omega)]
    have e : tagsL (ps.take (k + 1)) = tagsL (ps.take k) ++ sumT (gP ps k).tag := by rw [hts]; simp [tagsL]
    rw [e, List.length_append, ih (fun j hj => h j (by omega)) (by omega), sumT_len (h k (by omega))]
    omega
theorem tags_succ (ps : List PartD) (k : Nat) (hk : k < ps.length) : tagsL (ps.take (k + 1)) = tagsL (ps.take k) ++ sumT (gP ps k).tag := by
  have hts : ps.take (k + 1) = ps.take k ++ [gP ps k] := by rw [List.take_succ_eq_append_getElem hk]; simp [gP, List.getD, hk]
  rw [hts]; simp [tagsL]
def ETagPost (ps : List PartD) (ok no : Value) (w : World) (e : Ending) (w' : World) : Prop :=
  ((etagB ps = true ∧ e = .returned (.tuple #[.string ⟨(etagL ps).toArray⟩, ok])) ∨ (etagB ps = false ∧ e = .returned (.tuple #[.string ⟨#[]⟩, no]))) ∧ Q w w'
theorem etag_no {ps : List PartD} (k : Nat) (hk : k < ps.length) (h : sumB (gP ps k).tag = false) : etagB ps = false := by
  unfold etagB
  cases e : ps.all (fun p => sumB p.tag) with
  | false => rfl
  | true => have := all_gP.1 e k hk; rw [h] at this; cases this
theorem etag_yes {ps : List PartD} (h0 : 0 < ps.length) (h : ∀ j, j < ps.length → sumB (gP ps j).tag = true) : etagB ps = true := by
  unfold etagB
  rw [all_gP.2 h]
  cases ps with
  | nil => simp at h0
  | cons a r => rfl
theorem md_len (t : List UInt8) : (md t).length = 16 := sumA_length _ _
set_option maxRecDepth 100000 in
set_option maxHeartbeats 4000000 in
theorem ETag_any (A : Option Addr) (n cap : Nat) (ps : List PartD) (w : World) (h : PartsAt w A n ps) (hok : OkP ps) (ht : Tab w) (hn : n ≤ 4398046511104) : Calls Tryd.prog 13 #[.slice A n cap] w (ETagPost ps (.int .i64 0) (.int .i64 1) w) := by
  have hnl := Lib.hid h.1
  have HH := Lib.hid h
  have HT := Lib.hid ht
  clear h ht
  go_enter Tryd.func13, Tryd.ntmps13
  go_wp2_with fail
  refine (SNew_any _).mono ?_
  rintro e w1 ⟨g, hl, sl, hs, ss, rfl, ⟨b1, b2, b3, b4, b5⟩, hS, hq⟩
  have HS0 := Lib.hid hS
  have HQ0 := Lib.hid hq
  clear hS hq
  go_wp2_with fail
  go_loopw [12] (fun i wr => ∃ k : Nat, k ≤ n ∧ i = .int .i64 (k : Int) ∧ Hid (∀ j, j < k → sumB (gP ps j).tag = true) ∧ Hid (SumsAt wr g hl sl hs ss (tagsL (ps.take k))) ∧ Hid (Q w wr)) (fun i _ => n - (intOf i).toNat)
  case atStart => exact ⟨0, by omega, rfl, fun j hj => by omega, by rw [List.take_zero]; exact HS0.out, HQ0.out⟩
  case round =>
    clear HS0 HQ0
    obtain ⟨k, hk, rfl, hj, HS, HQ⟩ := hrel
    by_cases hlt : k < n
    · have hkl : k < ps.length := by rw [← hnl.out]; exact hlt
      obtain ⟨g5, off, rfl, c0, c1, c2, c3, c4⟩ := (HH.out.q HQ.out).at hlt
      have g1 : decide (k < n) = true := by simpa using hlt
      have hTS := Lib.hid (tags_succ ps k hkl)
      have hTL := Lib.hid (tags_len ps k hj.out (by omega))
      have hsum := Lib.hid (fun w => sum_any' (gP ps k).tag w (hok.at k hkl))
      go_wp2_with fail
      refine (hsum.out _).mono ?_
      rintro e w2 ⟨rfl, hq2⟩
      have hq12 : Q wr w2 := ((Q.refl wr).alloc (.cells (partL (gP ps k)).toArray 31)).trans hq2
      have HQ2 := Lib.hid (HQ.out.trans hq12)
      have HS2 := Lib.hid (HS.out.q hq12)
      clear c0 c1 c2 c3 c4 hsum hq2 hq12
      cases hb : sumB (gP ps k).tag with
      | false =>
        have HF := Lib.hid (etag_no k hkl hb)
        go_wp2_with fail
        go_ret2
        exact ⟨.inr ⟨HF.out, rfl⟩, HQ2.out⟩
      | true =>
        have h16 := sumT_len hb
        have HB := Lib.hid hb
        clear hb
        go_wp2_with fail
        refine (SWrite_any g hl sl hs ss (tagsL (ps.take k)) (sumT (gP ps k).tag) _ HS2.out (by rw [hTL.out, h16]; omega)).mono ?_
        rintro e w3 ⟨rfl, hS3, hg3⟩
        have HS3 := Lib.hid hS3
        have HQ3 := Lib.hid (hg3.toQ HQ2.out (by intro x hx; simp only [List.mem_cons, List.not_mem_nil, or_false] at hx; rcases hx with rfl | rfl | rfl | rfl | rfl <;> assumption))
        clear hS3 hg3
        go_wp2_with fail
        go_roundw
        case rel =>
          refine ⟨k + 1, hlt, by go_num, fun j hj' => ?_, by rw [hTS.out]; exact HS3.out, HQ3.out⟩
          by_cases e : j = k
          · subst e; exact HB.out
          · exact hj.out j (by omega)
        case measure => simp [intOf]; omega
    · have HKN : Hid (k = n) := (show k = n by omega)
      have g1 : decide (k < n) = false := by simpa using hlt
      have e1 : ps.take k = ps := List.take_of_length_le (by have := HKN.out; have := hnl.out; omega)
      rw [e1] at HS
      by_cases h0 : n = 0
      · have g2 : ((n : Int) == 0) = true := by simpa using h0
        have HF : Hid (etagB ps = false) := (by have : ps = [] := List.eq_nil_of_length_eq_zero (by rw [← hnl.out]; exact h0); rw [this]; rfl : etagB ps = false)
        clear h0 e1 hlt
        go_wp2_with fail
        go_ret2
        exact ⟨.inr ⟨HF.out, rfl⟩, HQ.out⟩
      · have g2 : ((n : Int) == 0) = false := by simpa using h0
        have HY := Lib.hid (etag_yes (ps := ps) (by rw [← hnl.out]; omega) (fun j hj' => hj.out j (by have := HKN.out; have := hnl.out; omega)))
        clear h0 e1 hlt
        have hm16 := md_len (tagsL ps)
        have hd21 := dec_len n (by omega)
        go_wp2_with fail
        refine (SSum5_any g hl sl hs ss (tagsL ps) _ HS.out).mono ?_
        rintro e w2 ⟨rfl, hq2⟩
        have HQ2 := Lib.hid (HQ.out.trans hq2)
        clear hq2
        go_wp2_with fail
        refine (Hex_any (md (tagsL ps)) _ (by rw [hm16]; omega)).mono ?_
        rintro e w3 ⟨rfl, hq3⟩
        have HQ3 := Lib.hid (HQ2.out.trans hq3)
        have hh32 : (hexL (md (tagsL ps))).length = 32 := by rw [hexL_length, hm16]
        clear hq3
        go_wp2_with fail
        refine (Itoa_nat n _ (HT.out.q HQ3.out) (by omega)).mono ?_
        rintro e w4 ⟨rfl, hq4⟩
        have HQ4 := Lib.hid (HQ3.out.trans hq4)
        clear hq4
        go_wp2_with fail
        go_ret2
        refine ⟨.inl ⟨HY.out, ?_⟩, HQ4.out⟩
        unfold etagL
        rw [← hnl.out]
        first | rfl | simp
set_option maxRecDepth 100000 in
set_option maxHeartbeats 4000000 in
theorem RETag_any (A : Option Addr) (n cap : Nat) (ps : List PartD) (w : World) (h : PartsAt w A n ps) (hok : OkP ps) (hn : n ≤ 4398046511104) : Calls Tryd.prog 19 #[.slice A n cap] w (ETagPost ps (.bool true) (.bool false) w) := by
  have hnl := Lib.hid h.1
  have HH := Lib.hid h
  clear h
  go_enter Tryd.func19, Tryd.ntmps19
  go_wp2_with fail
  go_loopw [4, 5] (fun s i wr => ∃ k : Nat, k ≤ n ∧ i = .int .i64 (k : Int) ∧ s = .string ⟨(tagsL (ps.take k)).toArray⟩ ∧ Hid (∀ j, j < k → sumB (gP ps j).tag = true) ∧ Hid (Q w wr)) (fun _ i _ => n - (intOf i).toNat)
  case atStart => exact ⟨0, by omega, rfl, by simp [tagsL], fun j hj => by omega, Q.refl _⟩
  case round =>
    obtain ⟨k, hk, rfl, rfl, hj, HQ⟩ := hrel
    by_cases hlt : k < n
    · have hkl : k < ps.length := by rw [← hnl.out]; exact hlt
      obtain ⟨g5, off, rfl, c0, c1, c2, c3, c4⟩ := (HH.out.q HQ.out).at hlt
      have g1 : decide (k < n) = true := by simpa using hlt
      have hTS := Lib.hid (tags_succ ps k hkl)
      have hTL := tags_len ps k hj.out (by have := hnl.out; omega)
      have hsum := Lib.hid (fun w => rsum_any (gP ps k).tag w (hok.at k hkl))
      clear c0 c1 c2 c4
      go_wp2_with fail
      refine (hsum.out _).mono ?_
      rintro e w2 ⟨rfl, hq2⟩
      have HQ2 := Lib.hid (HQ.out.trans hq2)
      clear c3 hsum hq2
      cases hb : sumB (gP ps k).tag with
      | false =>
        have HF := Lib.hid (etag_no k hkl hb)
        go_wp2_with fail
        go_ret2
        exact ⟨.inr ⟨HF.out, rfl⟩, HQ2.out⟩
      | true =>
        have h16 := sumT_len hb
        have HB := Lib.hid hb
        clear hb
        go_wp2_with fail
        go_roundw
        case rel =>
          refine ⟨k + 1, hlt, by go_num, by rw [hTS.out], fun j hj' => ?_, HQ2.out⟩
          by_cases e : j = k
          · subst e; exact HB.out
          · exact hj.out j (by omega)
        case measure => simp [intOf]; omega
    · have HKN : Hid (k = n) := (show k = n by omega)
      have g1 : decide (k < n) = false := by simpa using hlt
      have e1 : ps.take k = ps := List.take_of_length_le (by have := HKN.out; have := hnl.out; omega)
      have hTL := Lib.hid (tags_len ps k hj.out (by have := hnl.out; omega))
      rw [e1] at hTL ⊢
      by_cases h0 : n = 0
      · have g2 : ((n : Int) == 0) = true := by simpa using h0
        have HF : Hid (etagB ps = false) := (by have : ps = [] := List.eq_nil_of_length_eq_zero (by rw [← hnl.out]; exact h0); rw [this]; rfl : etagB ps = false)
        clear h0 e1 hlt
        go_wp2_with fail
        go_ret2
        exact ⟨.inr ⟨HF.out, rfl⟩, HQ.out⟩
      · have g2 : ((n : Int) == 0) = false := by simpa using h0
        have HY := Lib.hid (etag_yes (ps := ps) (by rw [← hnl.out]; omega) (fun j hj' => hj.out j (by have := HKN.out; have := hnl.out; omega)))
        clear h0 e1 hlt
        have hm16 := md_len (tagsL ps)
        have hd21 := dec_len n (by omega)
        go_wp2_with fail
        refine (Sum5R_any (tagsL ps) _ (by rw [hTL.out]; omega)).mono ?_
        rintro e w2 ⟨rfl, hq2⟩
        have HQ2 := Lib.hid (HQ.out.trans hq2)
        clear hq2
        go_wp2_with fail
        refine (RHex_any (md (tagsL ps)) _ (by rw [hm16]; omega)).mono ?_
        rintro e w3 ⟨rfl, hq3⟩
        have HQ3 := Lib.hid (HQ2.out.trans hq3)
        have hh32 : (hexL (md (tagsL ps))).length = 32 := by rw [hexL_length, hm16]
        clear hq3
        go_wp2_with fail
        refine (Digits_any n (by omega) _).mono ?_
        rintro e w4 ⟨rfl, hq4⟩
        have HQ4 := Lib.hid (HQ3.out.trans hq4)
        clear hq4
        go_wp2_with fail
        go_ret2
        refine ⟨.inl ⟨HY.out, ?_⟩, HQ4.out⟩
        unfold etagL
        rw [← hnl.out]
        first | rfl | simp
end Go.Proofs.YtbhgekhcpagkoaaDoor
/- Complete: plain. -/
set_option linter.unusedVariables false
set_option linter.unusedSimpArgs false
namespace Go.Proofs.YtbhgekhcpagkoaaDoor
open Go Go.RowKit
/-- A version, but for its blobs. -/
structure VerD where
  seq : Int
  null : Bool
  marker : Bool
  tag : List UInt8
  type : List UInt8
  size : Int
  time : Int
def verL (u : VerD) (v : Value) : List Value := [.int .i64 u.seq, .bool u.null, .bool u.marker, .string ⟨u.tag.toArray⟩, .string ⟨u.type.toArray⟩, .int .i64 u.size, .int .i64 u.time, v]
def verV (u : VerD) (v : Value) : Value := .agg (verL u v).toArray
def zV : VerD := ⟨0, false, false, [], [], 0, 0⟩
def BoxV (w : World) (b : Nat) (u : VerD) (v : Value) : Prop := w.heap[b]? = some (.cells (verL u v).toArray 37 (0, 0))
theorem BoxV.new (w : World) (u : VerD) (v : Value) : BoxV (w.alloc (.cells (verL u v).toArray 37)) w.heap.size u v := (MapKept.heap_alloc w _).1
theorem BoxV.q {w w' : World} {b : Nat} {u : VerD} {v : Value} (h : BoxV w b u v) (hq : Q w w') : BoxV w' b u v := hq.block h
theorem BoxV.lt {w : World} {b : Nat} {u : VerD} {v : Value} (h : BoxV w b u v) : b < w.heap.size := (Array.getElem?_eq_some_iff.1 h).1
theorem BoxV.fz {w : World} {b : Nat} {u : VerD} {v : Value} (h : BoxV w b u v) (i : Nat) : w.frozen? ⟨b, i, none⟩ = false := frozen_of_row w b i _ _ h
theorem BoxV.c5 {w : World} {b : Nat} {u : VerD} {v : Value} (h : BoxV w b u v) : w.cell? ⟨b, 5, none⟩ = some (.int .i64 u.size) := by rw [cell_of_row _ _ _ _ _ _ h]; rfl
theorem BoxV.c7 {w : World} {b : Nat} {u : VerD} {v : Value} (h : BoxV w b u v) : w.cell? ⟨b, 7, none⟩ = some v := by rw [cell_of_row _ _ _ _ _ _ h]; rfl
theorem BoxV.set3 {w : World} {b : Nat} {u : VerD} {v : Value} (h : BoxV w b u v) (t : List UInt8) : BoxV (w.setCell ⟨b, 3, none⟩ (.string ⟨t.toArray⟩)) b { u with tag := t } v := by
  unfold BoxV; rw [heap_setCell_any w b 3 _ _ _ _ h]; rfl
theorem BoxV.set5 {w : World} {b : Nat} {u : VerD} {v : Value} (h : BoxV w b u v) (x : Int) : BoxV (w.setCell ⟨b, 5, none⟩ (.int .i64 x)) b { u with size := x } v := by
  unfold BoxV; rw [heap_setCell_any w b 5 _ _ _ _ h]; rfl
theorem BoxV.set7 {w : World} {b : Nat} {u : VerD} {v : Value} (h : BoxV w b u v) (x : Value) : BoxV (w.setCell ⟨b, 7, none⟩ x) b u x := by
  unfold BoxV; rw [heap_setCell_any w b 7 _ _ _ _ h]; rfl
theorem infoV : (Tryd.prog.info? 37).map (·.size) = some 8 := by kernel_rfl
theorem verL_one (u : VerD) (v : Value) (hv : v.oneCell' = true) : (verL u v).toArray.all (·.oneCell') = true := by
  rw [List.all_toArray]
  simp only [verL, List.all_cons, hv, List.all_nil, Bool.and_true]
  rfl
theorem results_ver {fn : Func} {p q : Tmp} (h : fn.results = #[.cell p 37, .tmp q]) {tmps : Array Value} {w : World} {g : Nat} {u : VerD} {v : Value} (hp : tmps[p]?.getD undef = .pointer (some ⟨g, 0, none⟩)) (hb : BoxV w g u v) :
    (results fn tmps).run Tryd.prog w = .ok (.tuple #[verV u v, tmps.getD q undef]) w := by
  rw [results_cell_tmp h]
  have h1 := run_loadVar_row w g 37 37 _ _ _ hb Tryd.underlying37 rfl infoV
  simp [hp, asAddr, Result.andThen, h1, verV]
/-- Numbers of the call's own. -/
def OwnI (w0 w : World) (v : Value) (zs : List Int) : Prop := w.ownsRow w0.heap.size 3 1 v zs.length (zs.map (Value.int .i64))
theorem info_int : (Tryd.prog.info? 3).map (fun i => (i.zero, i.size, i.bytes)) = some (some (.int .i64 0), 1, 8) := by kernel_rfl
theorem OwnI.nil (w0 w : World) : OwnI w0 w (.slice none 0 0) [] := ⟨rfl, .inl ⟨rfl, rfl⟩⟩
theorem OwnI.g {w0 w w' : World} {v : Value} {ps : List Int} {row : Option Nat} (h : OwnI w0 w v ps) (hg : w.grownBy w' row) (hr : ∀ k, v.ownBlock = some k → row ≠ some k) : OwnI w0 w' v ps := by
  refine ⟨h.1, ?_⟩
  rcases h.2 with h2 | ⟨g, cap, cur, hv, h1, h2, h3⟩
  · exact .inl h2
  · refine .inr ⟨g, cap, cur, hv, h1, ?_, h3⟩
    rw [hg.block g (Array.getElem?_eq_some_iff.1 h2).1 (fun e => hr g (by rw [hv]; rfl) e.symm)]
    exact h2
theorem OwnI.q {w0 w w' : World} {v : Value} {ps : List Int} (h : OwnI w0 w v ps) (hq : Q w w') : OwnI w0 w' v ps := h.g (hq.gb' none) (fun _ _ e => by cases e)
theorem OwnI.base {w0 w1 w : World} {v : Value} {ps : List Int} (h : OwnI w1 w v ps) (hq : w0.heap.size ≤ w1.heap.size) : OwnI w0 w v ps := by
  refine ⟨h.1, ?_⟩
  rcases h.2 with h2 | ⟨g, cap, cur, hv, h1, h2⟩
  · exact .inl h2
  · exact .inr ⟨g, cap, cur, hv, by omega, h2⟩
theorem OwnI.block {w0 w : World} {v : Value} {ps : List Int} (h : OwnI w0 w v ps) {k : Nat} (hk : v.ownBlock = some k) : w0.heap.size ≤ k ∧ k < w.heap.size := by
  rcases h.2 with ⟨rfl, _⟩ | ⟨g, cap, cur, rfl, h1, h2, _⟩
  · cases hk
  · have := (Array.getElem?_eq_some_iff.1 h2).1
    simp [Value.ownBlock] at hk; omega
theorem OwnI.one {w0 w : World} {v : Value} {ps : List Int} (h : OwnI w0 w v ps) : v.oneCell' = true := by
  rcases h.2 with ⟨rfl, _⟩ | ⟨g, cap, cur, rfl, _⟩ <;> rfl
/-- The slice holds these numbers, nothing said of their size. -/
def NumsAt (w : World) (A : Option Addr) (n : Nat) (zs : List Int) : Prop :=
  n = zs.length ∧ (0 < n → ∃ g, A = some ⟨g, 0, none⟩ ∧ g < w.heap.size ∧ ∀ i (h : i < zs.length), w.cell? ⟨g, i, none⟩ = some (.int .i64 zs[i]))
theorem NumsAt.q {w w' : World} {A : Option Addr} {n : Nat} {zs : List Int} (h : NumsAt w A n zs) (hq : Q w w') : NumsAt w' A n zs :=
  ⟨h.1, fun h0 => let ⟨g, e, hg, hc⟩ := h.2 h0; ⟨g, e, Nat.lt_of_lt_of_le hg hq.size, fun i hi => hq.cell (hc i hi)⟩⟩
theorem OwnI.slice {w0 w : World} {v : Value} {zs : List Int} (h : OwnI w0 w v zs) : ∃ A cap, v = .slice A zs.length cap ∧ zs.length ≤ cap ∧ cap ≤ 9223372036854775807 ∧ NumsAt w A zs.length zs := by
  rcases h.2 with ⟨rfl, h0⟩ | ⟨g, cap, cur, rfl, hb, hh, hn, hm, hcs, ht⟩
  · exact ⟨none, 0, by rw [h0], by omega, by omega, rfl, fun h1 => absurd h1 (by omega)⟩
  · refine ⟨_, cap, rfl, hn, hm, rfl, fun _ => ⟨g, rfl, (Array.getElem?_eq_some_iff.1 hh).1, fun i hi => ?_⟩⟩
    rw [cell_of_row _ _ _ _ _ _ hh]
    have e : (cur.toList.take (zs.length * 1))[i]? = (zs.map (Value.int .i64))[i]? := by rw [ht]
    rw [List.getElem?_take, if_pos (by omega), List.getElem?_map, List.getElem?_eq_getElem hi] at e
    rw [← Array.getElem?_toList, e]; rfl
/-- append(l, x). -/
theorem wpList_append_i {ops : Array Oper} {rest : List Oper} {o : Oper} {a : Act} {R : Exit → Act → World → Prop} (hgd : o.guard = none) (s x : Operand)
    (ho : o.op = .call { callee := .builtin .append, args := #[s, x], argTypes := #[35, 35] })
    (w0 W : World) (v : Value) (ps : List Int) (p : Int) (hs : a.eval s = v) (hown : OwnI w0 W v ps) (hx : a.eval x = .slice (some ⟨W.heap.size, 0, none⟩) 1 1) (hq : Q w0 W) (hb : (ps.length + 1) * 8 ≤ 140737488355328)
    (h : ∀ v' w', OwnI w0 w' v' (ps ++ [p]) → Q w0 w' → (W.grownBy w' v.ownBlock ∧ (v'.ownBlock = v.ownBlock ∨ v'.ownBlock = some (W.heap.size + 1))) → wpList Tryd.prog ops R rest (a.put o.dst v') w') : wpList Tryd.prog ops R (o :: rest) a (W.alloc (.cells #[.int .i64 p] 3)) := by
  obtain ⟨i, hi, hz, hsz, hby⟩ := info_parts info_int
  have hA : ∀ k, v.ownBlock = some k → w0.heap.size ≤ k := fun k hk => (hown.block hk).1
  have hown1 : OwnI w0 (W.alloc (.cells #[.int .i64 p] 3)) v ps := hown.q ((Q.refl W).alloc _)
  refine wpList_append_own_at (w := W.alloc (.cells #[.int .i64 p] 3)) hgd s x 35 ho w0.heap.size 3 i _ 1 8 Tryd.underlying35 hi hz hsz hby rfl (by decide) v ps.length _ hs hown1 ⟨W.heap.size, 0, none⟩ 1 1 [.int .i64 p] hx rfl ?_ ?_ (by unfold maxLen; omega) hb (by have := hq.size; simp; omega) ?_
  · intro j u hj
    have e : (Addr.add ⟨W.heap.size, 0, none⟩ j) = ⟨W.heap.size, j, none⟩ := by unfold Addr.add; split <;> simp_all
    rw [e, cell_of_row _ _ _ _ _ _ (MapKept.heap_alloc W _).1]
    have : (#[Value.int .i64 p] : Array Value)[j]? = [Value.int .i64 p][j]? := by simp
    rw [this]; simpa using hj
  · intro u hu; simp at hu; subst hu; rfl
  · intro v' w' h2 hg _ hb2
    have hg2 : W.grownBy w' v.ownBlock := (World.grownBy_alloc W _ _).trans hg
    refine h v' w' ?_ ?_ ⟨hg2, by simpa using hb2⟩
    · unfold OwnI; rw [List.map_append, List.length_append]; exact h2
    · exact Below.grown hq hg2 hq.size (fun k hk => hA k hk)
/- Which part is meant. -/
def sameP (p q : PartD) : Bool := (q.num == p.num) && (q.tag == p.tag)
def findP (ps : List PartD) (p : PartD) : Option PartD := ps.find? (sameP p)
def hasB (ps l : List PartD) : Bool := l.all fun p => (findP ps p).isSome
def pickL (ps l : List PartD) : List PartD := l.filterMap (findP ps)
def smallB (of : List PartD) : Bool := (List.range (of.length - 1)).any fun i => decide ((gP of i).size < 16)
def sizeS (of : List PartD) : Int := (of.map (·.size)).sum
def compE (ps l : List PartD) : Int :=
  if rightB ps = false then 1 else if l.length < 1 ∨ 20 < l.length then 89 else if riseB l = false then 87 else if hasB ps l = false then 86 else if smallB (pickL ps l) = true then 88 else 0
def compV (ty : List UInt8) (of : List PartD) (now : Int) : VerD := ⟨0, false, false, etagL of, ty, sizeS of, now⟩
def CompPost (ty : List UInt8) (ps l : List PartD) (now : Int) (w : World) (e : Ending) (w' : World) : Prop :=
  ((compE ps l = 0 ∧ ∃ v, e = .returned (.tuple #[verV (compV ty (pickL ps l) now) v, .int .i64 0]) ∧ OwnI w w' v ((pickL ps l).map (·.blob))) ∨ (compE ps l ≠ 0 ∧ e = .returned (.tuple #[verV zV (.slice none 0 0), .int .i64 (compE ps l)]))) ∧ Q w w'
theorem gP_eq (ps : List PartD) (j : Nat) (h : j < ps.length) : gP ps j = ps[j] := by simp [gP, List.getD, h]
theorem gP_bang (ps : List PartD) (j : Nat) (h : j < ps.length) : ps[j]! = gP ps j := by rw [gP_eq ps j h, getElem!_pos ps j h]
theorem idx_or (ps : List PartD) (p : PartD) : (∃ k, k < ps.length ∧ Lib.idxBy (fun _ y => sameP p y) ps default = (k : Int) ∧ findP ps p = some (gP ps k)) ∨ (Lib.idxBy (fun _ y => sameP p y) ps default = -1 ∧ findP ps p = none) := by
  cases h : findP ps p with
  | none =>
    refine .inr ⟨?_, rfl⟩
    have h2 := List.find?_eq_none.1 h
    have := Lib.idxBy_miss (fun _ y => sameP p y) ps ps.length default (fun j hj => by
      have := h2 ps[j] (List.getElem_mem hj)
      rw [getElem!_pos ps j hj]; simpa using this)
    rwa [List.take_length] at this
  | some q =>
    refine .inl ?_
    obtain ⟨hs, k, hk, hq, hn⟩ := List.find?_eq_some_iff_getElem.1 h
    refine ⟨k, hk, ?_, by rw [gP_eq ps k hk, hq]⟩
    have := Lib.idxBy_hit (fun _ y => sameP p y) ps ps.length k default hk (Nat.le_refl _) (by rw [getElem!_pos ps k hk, hq]; exact hs) (fun j hj => by
      have := hn j hj
      rw [getElem!_pos ps j (by omega)]; simpa using this)
    rwa [List.take_length] at this
theorem find_mem {ps : List PartD} {p q : PartD} (h : findP ps p = some q) : q ∈ ps := List.mem_of_find?_eq_some h
theorem pick_mem {ps l : List PartD} {q : PartD} (h : q ∈ pickL ps l) : q ∈ ps := by
  obtain ⟨p, _, hp⟩ := List.mem_filterMap.1 h
  exact find_mem hp
theorem pick_succ {ps l : List PartD} {k : Nat} {q : PartD} (hk : k < l.length) (h : findP ps (gP l k) = some q) : pickL ps (l.take (k + 1)) = pickL ps (l.take k) ++ [q] := by
  unfold pickL; rw [take_gP l k hk, List.filterMap_append]; simp [h]
theorem has_no {ps l : List PartD} {k : Nat} (hk : k < l.length) (h : findP ps (gP l k) = none) : hasB ps l = false := by
  unfold hasB
  rw [List.all_eq_false]
  exact ⟨l[k], List.getElem_mem hk, by rw [← gP_eq l k hk, h]; simp⟩
theorem has_yes {ps l : List PartD} (h : ∀ j, j < l.length → (findP ps (gP l j)).isSome = true) : hasB ps l = true := by
  unfold hasB
  rw [List.all_eq_true]
  intro p hp
  obtain ⟨j, hj, rfl⟩ := List.getElem_of_mem hp
  rw [← gP_eq l j hj]; exact h j hj
theorem small_yes {of : List PartD} {k : Nat} (hk : k + 1 < of.length) (h : (gP of k).size < 16) : smallB of = true := by
  unfold smallB
  rw [List.any_eq_true]
  exact ⟨k, List.mem_range.2 (by omega), by simpa using h⟩
theorem small_no {of : List PartD} (h : ∀ j, j + 1 < of.length → ¬ (gP of j).size < 16) : smallB of = false := by
  unfold smallB
  rw [List.any_eq_false]
  intro i hi
  simpa using h i (by have := List.mem_range.1 hi; omega)
theorem size_succ {of : List PartD} {k : Nat} (hk : k < of.length) : sizeS (of.take (k + 1)) = sizeS (of.take k) + (gP of k).size := by
  unfold sizeS; rw [take_gP of k hk]; simp
theorem blob_succ {of : List PartD} {k : Nat} (hk : k < of.length) : (of.take (k + 1)).map (·.blob) = (of.take k).map (·.blob) ++ [(gP of k).blob] := by
  rw [take_gP of k hk]; simp
theorem size_bound {of : List PartD} (h : ∀ p ∈ of, 0 ≤ p.size ∧ p.size ≤ 8000) (k : Nat) : 0 ≤ sizeS (of.take k) ∧ sizeS (of.take k) ≤ 8000 * k := by
  induction k with
  | zero => simp [sizeS]
  | succ k ih =>
    by_cases hk : k < of.length
    · rw [size_succ hk, gP_eq of k hk]
      have := h _ (List.getElem_mem hk)
      omega
    · rw [List.take_of_length_le (by omega)] at ih ⊢
      omega
theorem may_size {p : PartD} (h : mayB p = true) : 0 ≤ p.size ∧ p.size ≤ 8000 ∧ sumB p.tag = true := by
  unfold mayB at h
  simp only [Bool.and_eq_true, decide_eq_true_eq] at h
  exact ⟨h.2.2.2.1, h.2.2.2.2, h.1⟩
theorem right_mem {ps : List PartD} (h : rightB ps = true) {p : PartD} (hp : p ∈ ps) : mayB p = true := by
  unfold rightB at h
  simp only [Bool.and_eq_true] at h
  exact List.all_eq_true.1 h.2 p hp
theorem etag_of {ps l : List PartD} (h : rightB ps = true) (h1 : 0 < (pickL ps l).length) : etagB (pickL ps l) = true :=
  etag_yes h1 (fun j hj => by rw [gP_eq _ j hj]; exact (may_size (right_mem h (pick_mem (List.getElem_mem hj)))).2.2)
/- The index. -/
set_option maxHeartbeats 1000000 in
theorem same_any (b : Nat) (p q : PartD) (w : World) (h : BoxP w b p) : Calls Tryd.prog 27 #[partV q, .pointer (some ⟨b, 0, none⟩)] w fun e w' => e = .returned (.bool (sameP p q)) ∧ Q w w' := by
  have hb := h.lt
  have hb1 : BoxP (w.alloc (.cells (partL q).toArray 31)) b p := h.q ((Q.refl w).alloc _)
  obtain ⟨num, size, time, tag, blob⟩ := q
  have c0 := hb1.c0
  have c3 := hb1.c3
  have hq := (Q.refl w).alloc (.cells (partL ⟨num, size, time, tag, blob⟩).toArray 31)
  unfold partV partL sameP at *
  simp only at c0 c3 hq ⊢
  obtain ⟨num2, size2, time2, tag2, blob2⟩ := p
  clear h hb1
  simp only at c0 c3 hq ⊢
  go_enter Tryd.func27, Tryd.ntmps27
  cases hn : (num == num2) with
  | false =>
    go_wp2_with fail
    go_ret
    exact ⟨rfl, hq⟩
  | true =>
    go_wp2_with fail
    go_ret
    exact ⟨by simp [hn], hq⟩
theorem enters_same : ∀ args w, (callFunc 27 args).run Tryd.prog w = .ok (.enter 27 args) w := enters_of Tryd.func27 (by kernel_rfl) rfl
theorem index_any (A : Option Addr) (n cap b : Nat) (ps : List PartD) (p : PartD) (w : World) (h : PartsAt w A n ps) (hb : BoxP w b p) (hn : n ≤ 9223372036854775807) :
    Calls Tryd.prog 26 #[.slice A n cap, .func (.func 27) #[] #[.pointer (some ⟨b, 0, none⟩)]] w fun e w' => e = .returned (.int .i64 (Lib.idxBy (fun _ y => sameP p y) ps default)) ∧ Q w w' := by
  by_cases h0 : n = 0
  · subst h0
    have : ps = [] := List.eq_nil_of_length_eq_zero h.1.symm
    subst this
    exact index_0 A cap _ w
  · obtain ⟨g, off, rfl, hg, hc⟩ := h.2 (by omega)
    have hpred : PredBelow Tryd.prog 27 #[.pointer (some ⟨b, 0, none⟩)] (fun x : PartD => .agg (partL x).toArray) (fun x => sameP p x) w := fun W x hb2 =>
      (same_any b p x W (hb.q hb2)).mono fun e w' ⟨he, hq⟩ => ⟨he, hb2.trans (Below.mono hq hb2.size)⟩
    have := AnyQ.slices_IndexFunc lPa6 5 Tryd.isAgg31 Tryd.sizeOf31 (fun x : PartD => partL x) (fun _ => rfl) (fun x => sameP p x) 27 #[.pointer (some ⟨b, 0, none⟩)] enters_same g off n cap ps w hpred
      (by rw [← h.1]; exact Nat.le_refl _) hn hg (fun j hj i v hv => hc j hj i v (by rw [getElem!_pos ps j hj] at hv; exact hv))
    refine this.mono ?_
    rintro e w' ⟨rfl, hb⟩
    rw [List.take_of_length_le (by rw [h.1]; exact Nat.le_refl _)]
    exact ⟨rfl, hb⟩
end Go.Proofs.YtbhgekhcpagkoaaDoor
