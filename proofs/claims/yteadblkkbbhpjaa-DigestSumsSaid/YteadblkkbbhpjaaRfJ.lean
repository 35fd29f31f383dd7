/- The reference's MD5. -/
import Derived.Test.YteadblkkbbhpjaaRfI
import Derived.Deep.DeepCutAuto
import Derived.Deep.CutBlock
set_option linter.unusedVariables false
namespace Go.Proofs.Yteadblkkbbhpjaa
open Go Go.RowKit
set_option maxRecDepth 100000 in
set_option maxHeartbeats 40000000 in
theorem Sum5R_any (l : List UInt8) (w : World) (hl : l.length ≤ 140737488355500) :
    Calls Try.prog 29 #[.string ⟨l.toArray⟩] w fun e w' => e = .returned (.string ⟨(md l).toArray⟩) ∧ Q w w' := by
  go_enter Try.func29, Try.ntmps29
  go_wp2_with fail
  with_reducible refine (table5_any _).mono ?_
  rintro e w0 ⟨rfl, hq0⟩
  have HQ0 := Lib.hid hq0
  clear hq0
  go_upto_region 2 with (refine wpList_store_row rfl 83 (.tmp 3) (.tmp 16) (by rfl) w0.heap.size (arrM k5) (by rfl) (by rfl) 83 _ (heap_alloc_new w0 _) (by rw [arrM_size]; exact info64) rfl (arr_all _) ?_)
  obtain ⟨w1, hw1, hs1, hK1, hq1⟩ := t_start w0 _
  rw [← hw1]
  clear hw1
  have HQ0' := Lib.hid (HQ0.out.trans hq1)
  have HK1 := Lib.hid hK1
  have HQ1 := Lib.hid (HQ0.out.trans hq1)
  have HS1 := Lib.hid hs1
  clear hK1 hq1 HQ0 hs1
  go_upto_region 3 with (fail)
  obtain ⟨w2, hw2, hT2, hq2, hs2⟩ : ∃ w2, w2 = w1.alloc (.cells turnsA 3) ∧ TurnL w2 w1.heap.size ∧ Q w1 w2 ∧ w2.heap.size = w1.heap.size + 1 := ⟨_, rfl, heap_alloc_new w1 _, (Q.refl w1).alloc _, by simp⟩
  refine Eq.mp (congrArg _ hw2) ?_
  clear hw2
  have HT2 := Lib.hid hT2
  have HK2 := Lib.hid (HK1.out.q hq2)
  have HQ2 := Lib.hid (HQ1.out.trans hq2)
  have HS2 := Lib.hid hs2
  clear hT2 hq2 hs2 HK1 HQ1
  go_upto_region 4 with (refine wpList_store_row rfl 89 (.tmp 5) (.tmp 18) (by rfl) w2.heap.size (arrM start5.list) (by rfl) (by rfl) 89 _ (heap_alloc_new w2 _) (by rw [arrM_size]; exact infoA4) rfl (arr_all _) ?_)
  obtain ⟨w2', hw2', hs2', hA2, hq2'⟩ := h_start4 w2 _ start5.list rfl
  rw [← hw2']
  clear hw2'
  have HA := Lib.hid hA2
  have HT := Lib.hid (show TurnL w2' w1.heap.size from hq2'.block HT2.out)
  have HK := Lib.hid (HK2.out.q hq2')
  have HQ := Lib.hid (HQ2.out.trans hq2')
  have hg1 : w2.heap.size < w2'.heap.size := by omega
  have hg0 : w0.heap.size < w1.heap.size := by rw [HS1.out]; omega
  have hg2 : w1.heap.size < w2.heap.size := by rw [HS2.out]; omega
  clear hA2 hs2' hq2' HT2 HK2 HQ2
  have hwh : w.heap.size ≤ w2.heap.size := by have := HQ0'.out.size; omega
  generalize w2.heap.size = gh at *
  generalize w1.heap.size = gt at *
  generalize w0.heap.size = gk at *
  go_wp2_with fail
  with_reducible refine (padded_any l false _ hl).mono ?_
  rintro e w3 ⟨vb, rfl, hown, hq3⟩
  obtain ⟨bg, cb, hvb, hbg, hcb, hcb2, hbc⟩ := hown.pos (by rw [padA_length]; omega)
  have hsha : md l = (blocksA alg5 (padA false l) ((padA false l).length / 64)).flatMap (outW false) := rfl
  have hpl := padA_length false l
  have hpm := padA_mod false l
  generalize padA false l = PB at *
  rw [hvb]
  obtain ⟨NB, hNB⟩ : ∃ NB, PB.length = 64 * NB := ⟨PB.length / 64, by omega⟩
  rw [show PB.length / 64 = NB from by omega] at hsha
  have hNL : NB ≤ 2199023255558 := by unfold fillN at hpl; omega
  obtain ⟨PL, hPL⟩ : ∃ PL, PL = PB.length := ⟨_, rfl⟩
  rw [← hPL] at hcb hbc ⊢
  have hPL2 : PL = 64 * NB := by omega
  have hPL3 : PL ≤ 140737488355712 := by omega
  have hPL4 : 0 < PL := by unfold fillN at hpl; omega
  have HSHA := Lib.hid hsha
  have HBC := Lib.hid hbc
  have HPB := Lib.hid hNB
  have HA3 := Lib.hid (HA.out.q hq3)
  have HT3 := Lib.hid (show TurnL w3 gt from hq3.block HT.out)
  have HK3 := Lib.hid (HK.out.q hq3)
  have HQ3 := Lib.hid (HQ.out.trans hq3)
  have hg3 : gh < w3.heap.size := Nat.lt_of_lt_of_le hg1 hq3.size
  have hbl : bg < w3.heap.size := lt_of_cell (hbc 0 hPL4).1
  have HPL := Lib.hid hPL2
  have hb1 : gh < bg := by omega
  clear hvb hown hq3 HA HT HK HQ hsha hbc hNB hpl hpm hg1 hPL hPL2 vb
  go_wp2_with fail
  go_loopw [7] (fun at_ wr => ∃ m : Nat, m ≤ NB ∧ at_ = .int .i64 (64 * m : Nat) ∧ A4At wr gh (blocksA alg5 PB m) ∧ GX [gh] w3 wr) (fun at_ _ => PL - (intOf at_).toNat)
  case atStart => exact ⟨0, by omega, rfl, HA3.out, GX.refl _ _⟩
  case round =>
    obtain ⟨m, hm, rfl, hA, hG⟩ := hrel
    by_cases hlt : m < NB
    · obtain ⟨at_, hat⟩ : ∃ at_, at_ = 64 * m := ⟨_, rfl⟩
      rw [← hat]
      have hat2 : at_ + 64 ≤ PL := by rw [HPL.out]; omega
      have hd : decide (at_ < PL) = true := by simp; omega
      have HAT := Lib.hid hat
      have hsz3 := hG.size
      have hHl := hA.2
      have hmx : blocksA alg5 PB (m + 1) = (mix5L (of4 (blocksA alg5 PB m)) (sub PB at_ (at_ + 64))).list := by rw [hat]; rfl
      have hst := of4_list _ hHl
      have HAA := Lib.hid hA
      have HGG := Lib.hid hG
      clear hat hA hG HA3
      go_upto_region 8 with (fail)
      iterate 1 go_step
      refine wpList_load_row rfl 89 (.tmp 5) rfl gh (by rfl) _ _ _ _ HAA.out.1 Try.underlying89 rfl (by rw [arrM_size, HAA.out.2]; exact infoA4) ?_
      iterate 3 go_step
      refine wpList_store_row rfl 89 (.tmp 8) (.tmp 27) rfl wr.heap.size (arrM (blocksA alg5 PB m)) (by rfl) (by rfl) 89 _ (heap_alloc_new wr _) (by rw [arrM_size, HAA.out.2]; exact infoA4) (by rw [arrM_size, HAA.out.2]; rfl) (arr_all _) ?_
      obtain ⟨w6, hw6, hs6, hV6, hq6⟩ := h_start4 wr _ (blocksA alg5 PB m) HAA.out.2
      rw [← hw6]
      clear hw6
      generalize blocksA alg5 PB m = ST at *
      obtain ⟨s, hs⟩ : ∃ s, s = of4 ST := ⟨_, rfl⟩
      rw [← hs] at hmx hst
      generalize hbb : sub PB at_ (at_ + 64) = b' at *
      have hwv : w3.heap.size ≤ wr.heap.size := HGG.out.size
      have hwr6 : wr.heap.size < w6.heap.size := by omega
      have HV6 := Lib.hid hV6
      have HG6 := Lib.hid (HGG.out.trans (GX.q hq6))
      have HAA6 := Lib.hid (HAA.out.q hq6)
      have HMX := Lib.hid hmx
      have HST := Lib.hid hst
      have HBB := Lib.hid hbb
      have HGP := Lib.hid HGG.out
      have HQP := Lib.hid hq6
      clear hV6 hq6 hs6 hHl hmx hst hs hbb HAA HGG
      go_wp2_with fail
      obtain ⟨wp, rfl⟩ : ∃ wp : World, wp = wr := ⟨_, rfl⟩
      obtain ⟨vg, hvg⟩ : ∃ vg, vg = wp.heap.size := ⟨_, rfl⟩
      rw [← hvg]
      have HV6' : Hid (A4At w6 vg ST) := Lib.hid (by rw [hvg]; exact HV6.out)
      have hvg1 : vg < w6.heap.size := by omega
      have hvg0 : wp.heap.size ≤ vg := by omega
      have hvg2 : w3.heap.size ≤ vg := by omega
      clear hvg HV6 hwv hwr6
      go_loopw [9] (fun i wz => ∃ k : Nat, k ≤ 64 ∧ i = .int .i64 k ∧ A4At wz vg (rounds5 b' s k).list ∧ GX [vg] w6 wz) (fun i _ => 64 - (intOf i).toNat)
      case atStart => exact ⟨0, by omega, rfl, by show A4At _ _ s.list; rw [HST.out]; exact HV6'.out, GX.refl _ _⟩
      case round =>
        obtain ⟨k, hk, rfl, hV, hG⟩ := hrel
        by_cases hk64 : k < 64
        · have hd64 : decide ((k : Int) < 64) = true := by simp; omega
          have hRs : rounds5 b' s (k + 1) = round5 b' (rounds5 b' s k) k := rfl
          generalize rounds5 b' s k = R at *
          have v0 : wr.cell? ⟨vg, 0, none⟩ = some (.int .u32 (R.a.toNat : Int)) := hV.cell 0 (by decide)
          have v1 : wr.cell? ⟨vg, 1, none⟩ = some (.int .u32 (R.b.toNat : Int)) := hV.cell 1 (by decide)
          have v2 : wr.cell? ⟨vg, 2, none⟩ = some (.int .u32 (R.c.toNat : Int)) := hV.cell 2 (by decide)
          have v3 : wr.cell? ⟨vg, 3, none⟩ = some (.int .u32 (R.d.toNat : Int)) := hV.cell 3 (by decide)
          have HRS := Lib.hid hRs
          have HV := Lib.hid hV
          have HG := Lib.hid hG
          clear hRs hV hG HV6'
          go_upto_block 4 with (fail)
          go_cut [10, 11] (fun f g wx => f = .int .u32 ((f5 k R.b R.c R.d).toNat : Int) ∧ g = .int .i64 (at5 k % 16 : Nat) ∧ wr = wx)
          case first =>
            --[
            by_cases q0 : k / 16 = 0
            · have hF := f5_0 k R.b R.c R.d q0
              have hA := at5_0 k q0
              have t0 : ((k : Int) / 16 == 0) = true := by simp; omega
              have n1 : bits .xor .u32 (R.b.toNat : Int) 4294967295 = ((no R.b).toNat : Int) := xor_ones _
              have x1 : bits .and .u32 (R.b.toNat : Int) (R.c.toNat : Int) = ((an R.b R.c).toNat : Int) := and32 _ _
              have x2 : bits .and .u32 ((no R.b).toNat : Int) (R.d.toNat : Int) = ((an (no R.b) R.d).toNat : Int) := and32 _ _
              have x3 : bits .or .u32 ((an R.b R.c).toNat : Int) ((an (no R.b) R.d).toNat : Int) = ((oo (an R.b R.c) (an (no R.b) R.d)).toNat : Int) := or32 _ _
              have HF := Lib.hid hF
              have HA := Lib.hid hA
              clear hF hA q0
              go_wp2_with fail
              go_meet
              case rel => exact ⟨by rw [HF.out], by rw [HA.out], rfl⟩
            · by_cases q1 : k / 16 = 1
              · have hF := f5_1 k R.b R.c R.d q1
                have hA := at5_1 k q1
                have t0 : ((k : Int) / 16 == 0) = false := by simp; omega
                have t1 : ((k : Int) / 16 == 1) = true := by simp; omega
                have n1 : bits .xor .u32 (R.d.toNat : Int) 4294967295 = ((no R.d).toNat : Int) := xor_ones _
                have x1 : bits .and .u32 (R.d.toNat : Int) (R.b.toNat : Int) = ((an R.d R.b).toNat : Int) := and32 _ _
                have x2 : bits .and .u32 ((no R.d).toNat : Int) (R.c.toNat : Int) = ((an (no R.d) R.c).toNat : Int) := and32 _ _
                have x3 : bits .or .u32 ((an R.d R.b).toNat : Int) ((an (no R.d) R.c).toNat : Int) = ((oo (an R.d R.b) (an (no R.d) R.c)).toNat : Int) := or32 _ _
                have HF := Lib.hid hF
                have HA := Lib.hid hA
                clear hF hA q0 q1
                go_wp2_with fail
                go_meet
                case rel => exact ⟨by rw [HF.out], by rw [HA.out]; go_num, rfl⟩
              · by_cases q2 : k / 16 = 2
                · have hF := f5_2 k R.b R.c R.d q2
                  have hA := at5_2 k q2
                  have t0 : ((k : Int) / 16 == 0) = false := by simp; omega
                  have t1 : ((k : Int) / 16 == 1) = false := by simp; omega
                  have t2 : ((k : Int) / 16 == 2) = true := by simp; omega
                  have x1 : bits .xor .u32 (R.b.toNat : Int) (R.c.toNat : Int) = ((xo R.b R.c).toNat : Int) := xor32 _ _
                  have x2 : bits .xor .u32 ((xo R.b R.c).toNat : Int) (R.d.toNat : Int) = ((xo (xo R.b R.c) R.d).toNat : Int) := xor32 _ _
                  have HF := Lib.hid hF
                  have HA := Lib.hid hA
                  clear hF hA q0 q1 q2
                  go_wp2_with fail
                  go_meet
                  case rel => exact ⟨by rw [HF.out], by rw [HA.out]; go_num, rfl⟩
                · have hF := f5_3 k R.b R.c R.d (by omega)
                  have hA := at5_3 k (by omega)
                  have t0 : ((k : Int) / 16 == 0) = false := by simp; omega
                  have t1 : ((k : Int) / 16 == 1) = false := by simp; omega
                  have t2 : ((k : Int) / 16 == 2) = false := by simp; omega
                  have n1 : bits .xor .u32 (R.d.toNat : Int) 4294967295 = ((no R.d).toNat : Int) := xor_ones _
                  have x1 : bits .or .u32 (R.b.toNat : Int) ((no R.d).toNat : Int) = ((oo R.b (no R.d)).toNat : Int) := or32 _ _
                  have x2 : bits .xor .u32 (R.c.toNat : Int) ((oo R.b (no R.d)).toNat : Int) = ((xo R.c (oo R.b (no R.d))).toNat : Int) := xor32 _ _
                  have HF := Lib.hid hF
                  have HA := Lib.hid hA
                  clear hF hA q0 q1 q2
                  go_wp2_with fail
                  go_meet
                  case rel => exact ⟨by rw [HF.out], by rw [HA.out]; go_num, rfl⟩
            --]
          case rest =>
            obtain ⟨rfl, rfl, rfl⟩ := hcut
            obtain ⟨A, hA⟩ : ∃ A, A = at5 k % 16 := ⟨_, rfl⟩
            have hW5 := word5_lo PB at_ k
            rw [← hA, HBB.out] at hW5
            rw [← hA]
            have hA16 : A < 16 := by omega
            have hbg6 : bg < w6.heap.size := Nat.lt_of_lt_of_le hbl HG6.out.size
            have hc : ∀ j, j < 4 → wr.cell? ⟨bg, at_ + 4 * A + j, none⟩ = some (.int .u8 ((gB PB (at_ + 4 * A + j)).toNat : Int)) := by
              intro j hj
              have h1 := (HBC.out (at_ + 4 * A + j) (by omega)).1
              have h2 : w6.cell? ⟨bg, at_ + 4 * A + j, none⟩ = w3.cell? ⟨bg, at_ + 4 * A + j, none⟩ := World.cell?_of_block (HG6.out.block bg hbl (by simp; omega))
              have h3 : wr.cell? ⟨bg, at_ + 4 * A + j, none⟩ = w6.cell? ⟨bg, at_ + 4 * A + j, none⟩ := World.cell?_of_block (HG.out.block bg hbg6 (by simp; omega))
              exact (h3.trans h2).trans h1
            have c0 := hc 0 (by omega)
            have c1 := hc 1 (by omega)
            have c2 := hc 2 (by omega)
            have c3 := hc 3 (by omega)
            rw [Nat.add_zero] at c0
            have ck := ((HK3.out.x HG6.out (by simp; omega)).x HG.out (by simp; omega)).cell k hk64
            have hT : TurnL wr gt := HG.out.heap (by simp; omega) (HG6.out.heap (by simp; omega) HT3.out)
            have ct := hT.cell k hk64
            have hrp := rot_pos k hk64
            have hrl := rot_lt k hk64
            generalize hFF : f5 k R.b R.c R.d = FF at *
            generalize hKK : gW k5 k = KK at *
            generalize hWW : word5 b' k = WW at *
            have hNR := round5_eq b' R k FF KK WW hFF hKK hWW
            have HNR := Lib.hid hNR
            have HW5 := Lib.hid hW5
            have V0 := Lib.hid v0
            have V1 := Lib.hid v1
            have V2 := Lib.hid v2
            have V3 := Lib.hid v3
            have CK := Lib.hid ck
            have CT := Lib.hid ct
            have y0 := fun m : QW wr => m.cell c0
            have y1 := fun m : QW wr => m.cell c1
            have y2 := fun m : QW wr => m.cell c2
            have y3 := fun m : QW wr => m.cell c3
            clear hNR hW5 hFF hKK hWW v0 v1 v2 v3 ck ct hT c0 c1 c2 c3 hc hA
            go_upto_region 26 with (fail)
            refine wp_region_q (by kernel_rfl) (by kernel_rfl) ?_
            (repeat (go_big_quiet_step (fail)))
            refine wpQuiet_nil ?_
            rintro wx ⟨mx, hmx⟩
            have hqx : Q wr wx := by rw [hmx]; exact mx.le
            clear hmx mx y0 y1 y2 y3
            rw [le_bits, HW5.out]
            go_upto_region 27 with (fail)
            have e1 : ((FF.toNat : Int) + (R.a.toNat : Int)) % 4294967296 = ((ad R.a FF).toNat : Int) := by rw [Int.add_comm]; exact (ad_val _ _).symm
            have e2 : (((ad R.a FF).toNat : Int) + (KK.toNat : Int)) % 4294967296 = ((ad (ad R.a FF) KK).toNat : Int) := (ad_val _ _).symm
            have e3 : (((ad (ad R.a FF) KK).toNat : Int) + (WW.toNat : Int)) % 4294967296 = ((ad (ad (ad R.a FF) KK) WW).toNat : Int) := (ad_val _ _).symm
            have z0 := hqx.cell V0.out
            have zk := hqx.cell CK.out
            have y0 := fun m : QW wx => m.cell z0
            have yk := fun m : QW wx => m.cell zk
            clear z0 zk
            refine wp_region_q (by kernel_rfl) (by kernel_rfl) ?_
            (repeat (go_big_quiet_step (fail)))
            refine wpQuiet_nil ?_
            rintro wy ⟨my, hmy⟩
            have hqy : Q wr wy := by rw [hmy]; exact hqx.trans my.le
            clear hmy my y0 yk e1 e2
            rw [e3]
            clear e3 hqx
            go_upto_region 28 with (fail)
            generalize ad (ad (ad R.a FF) KK) WW = SS at *
            have e4 : ((R.b.toNat : Int) + ((rl (rot5 k) SS).toNat : Int)) % 4294967296 = ((ad R.b (rl (rot5 k) SS)).toNat : Int) := (ad_val _ _).symm
            have z1 := hqy.cell V1.out
            have z2 := hqy.cell V2.out
            have z3 := hqy.cell V3.out
            have zt := hqy.cell CT.out
            have y1 := fun m : QW wy => m.cell z1
            have y2 := fun m : QW wy => m.cell z2
            have y3 := fun m : QW wy => m.cell z3
            have yt := fun m : QW wy => m.cell zt
            clear z1 z2 z3 zt
            refine wp_region_q_tail 21 (by kernel_rfl) (by kernel_rfl) ?_
            simp only [List.take_succ_cons, List.take_zero, List.drop_succ_cons, List.drop_zero]
            (repeat (go_big_quiet_step ((go_at_call 60; exact calls_q (left01_any _ (rot5 k) _ hrp hrl)))))
            refine wpQuiet_nil ?_
            rintro wz ⟨mz, hmz⟩
            have hqz : Q wr wz := by rw [hmz]; exact hqy.trans mz.le
            clear hmz mz y1 y2 y3 yt hqy
            rw [e4]
            clear e4
            refine wpList_store_row rfl 89 (.tmp 8) (.tmp 164) rfl vg (arrM (St4.mk R.d (ad R.b (rl (rot5 k) SS)) R.b R.c).list) (by rfl) (by rfl) 89 _ (hqz.block HV.out.1) (by rw [arrM_size]; exact infoA4) (by rw [arrM_size, HV.out.2]; rfl) (arr_all _) ?_
            rw [← HNR.out]
            have hWY := GX.setRow ((HG.out).trans (GX.q hqz)) (g := vg) (by simp) (arrM (round5 b' R k).list)
            have hV9 := a4_row (g := vg) (hqz.block HV.out.1) (round5 b' R k).list rfl
            generalize wz.setRow vg (arrM (round5 b' R k).list) = wf at *
            have HWY := Lib.hid hWY
            have HV9 := Lib.hid hV9
            clear hWY hV9 hqz
            go_wp2_with fail
            go_roundw
            case rel => exact ⟨k + 1, by omega, by go_num, by rw [HRS.out]; exact HV9.out, HWY.out⟩
            case measure => simp [intOf]; omega
        · obtain rfl : k = 64 := by omega
          rw [show ((64 : Nat) : Int) = 64 from rfl]
          have hd64 : decide ((64 : Int) < 64) = false := by decide
          have hR : mix5L s b' = add4 s (rounds5 b' s 64) := rfl
          generalize rounds5 b' s 64 = R at *
          have hA9 := HAA6.out.x hG (by simp; omega)
          rw [← HST.out] at hA9
          have hG9 : GX [gh] w3 wr := HGP.out.trans (GX.q (hG.toQ HQP.out (by intro k hk; simp at hk; omega)))
          have HR := Lib.hid hR
          have HVV := Lib.hid hV
          have HA9 := Lib.hid hA9
          have HG9 := Lib.hid hG9
          clear hR hV hA9 hG9 hG HV6'
          go_wp2_with fail
          go_loopw [13] (fun i wz => ∃ k : Nat, k ≤ 4 ∧ i = .int .i64 k ∧ A4At wz gh (addP s.list R.list k) ∧ GX [gh] wr wz) (fun i _ => 4 - (intOf i).toNat)
          case atStart => exact ⟨0, by omega, rfl, HA9.out, GX.refl _ _⟩
          case round =>
            obtain ⟨k, hk, rfl, hA, hG⟩ := hrel
            by_cases hk8 : k < 4
            · have hd8 : decide ((k : Int) < 4) = true := by simp; omega
              have c1 := hA.cell k hk8
              rw [addP_old _ _ _ _ (Nat.le_refl k)] at c1
              have c2 := (HVV.out.x hG (by simp; omega)).cell k hk8
              have HA8 := Lib.hid hA
              have HGZ := Lib.hid hG
              clear hA hG
              go_upto_region 32 with (fail)
              have y1 := fun m : QW wr => m.cell c1
              have y2 := fun m : QW wr => m.cell c2
              clear c1 c2
              refine wp_region_q_tail 9 (by kernel_rfl) (by kernel_rfl) ?_
              simp only [List.take_succ_cons, List.take_zero, List.drop_succ_cons, List.drop_zero]
              (repeat (go_big_quiet_step (fail)))
              refine wpQuiet_nil ?_
              rintro wx ⟨mx, hmx⟩
              have hqx : Q wr wx := by rw [hmx]; exact mx.le
              clear hmx mx y1 y2
              have hAx := HA8.out.x (GX.q (S := []) hqx) (by simp)
              have hc := hAx.cell k hk8
              have hf := hAx.frozen k
              have HAX := Lib.hid hAx
              have HGX := Lib.hid (HGZ.out.trans (GX.q hqx))
              clear hAx hqx
              go_wp2_with fail
              go_roundw
              case rel =>
                refine ⟨k + 1, by omega, by go_num, ?_, GX.set HGX.out (by simp) _ _⟩
                have e1 := A4At.set HAX.out k (ad (gW s.list k) (gW R.list k))
                rw [ad_val] at e1
                exact e1
              case measure => simp [intOf]; omega
            · obtain rfl : k = 4 := by omega
              rw [show ((4 : Nat) : Int) = 4 from rfl]
              have hd8 : decide ((4 : Int) < 4) = false := by decide
              have e4 : addP s.list R.list 4 = (add4 s R).list := rfl
              rw [e4, ← HR.out, ← HMX.out] at hA
              have HA8 := Lib.hid hA
              have HGZ := Lib.hid (HG9.out.trans hG)
              clear hA hG HG9 HA9 HVV e4
              go_wp2_with fail
              go_roundw
              case rel => exact ⟨m + 1, by omega, by rw [HAT.out]; go_num, HA8.out, HGZ.out⟩
              case measure => simp [intOf]; omega
    · obtain rfl : m = NB := by omega
      rw [← HPL.out]
      have hd : decide (PL < PL) = false := by simp
      have HAA := Lib.hid hA
      have HG3 := Lib.hid hG
      have hHl := HAA.out.2
      generalize blocksA alg5 PB m = ST at *
      have hq4 : Q w wr := hG.toQ HQ3.out (by intro k hk; simp at hk; omega)
      have HQ4 := Lib.hid hq4
      clear hA hG HA3 hq4
      go_wp2_with fail
      obtain ⟨wq, rfl⟩ : ∃ wq : World, wq = wr := ⟨_, rfl⟩
      go_loopw [14, 15] (fun v i wz => ∃ k : Nat, k ≤ 4 ∧ i = .int .i64 k ∧ OwnB wq wz v ((ST.take k).flatMap (outW false)) ∧ Q wq wz) (fun _ i _ => 4 - (intOf i).toNat)
      case atStart => exact ⟨0, by omega, rfl, OwnB.nil _ _, Q.refl _⟩
      case round =>
        obtain ⟨k, hk, rfl, hO, hq⟩ := hrel
        by_cases hk8 : k < 4
        · have hd8 : decide ((k : Int) < 4) = true := by simp; omega
          have ca := HAA.out.cell k hk8
          have c1 := hq.cell ca
          have hfl : ((ST.take k).flatMap (outW false)).length ≤ 32 := by rw [flat_length, List.length_take]; omega
          have hsn : (ST.take (k + 1)).flatMap (outW false) = (ST.take k).flatMap (outW false) ++ outW false (gW ST k) := by
            rw [List.take_succ_eq_append_getElem (by rw [hHl]; exact hk8), List.flatMap_append]
            simp [gW, List.getD, hHl, hk8]
          generalize gW ST k = X at *
          generalize (ST.take k).flatMap (outW false) = F at *
          have b3 := shr8 X.toNat 3
          have b2 := shr8 X.toNat 2
          have b1 := shr8 X.toNat 1
          have b0 := shr8 X.toNat 0
          have ho : outW false X = [byN X.toNat 0, byN X.toNat 1, byN X.toNat 2, byN X.toNat 3] := rfl
          rw [ho] at hsn
          simp only [Nat.reduceMul, Int.reducePow, Int.pow_zero, Int.ediv_one, Nat.mul_zero] at b3 b2 b1 b0
          generalize byN X.toNat 3 = B3 at *
          generalize byN X.toNat 2 = B2 at *
          generalize byN X.toNat 1 = B1 at *
          generalize byN X.toNat 0 = B0 at *
          have b4 : (X.toNat : Int) / 16777216 = (B3.toNat : Int) := by rw [← b3]; have := X.isLt; omega
          have HSN := Lib.hid hsn
          have HO := Lib.hid hO
          have HQQ := Lib.hid hq
          clear hsn ho hO hq
          go_upto_region 37 with (fail)
          have p3 : IntKind.u8.wrap ((X.toNat : Int) / 16777216) = (B3.toNat : Int) := by rw [IntKind.wrap_u8]; exact b3
          have p2 : IntKind.u8.wrap ((X.toNat : Int) / 65536) = (B2.toNat : Int) := by rw [IntKind.wrap_u8]; exact b2
          have p1 : IntKind.u8.wrap ((X.toNat : Int) / 256) = (B1.toNat : Int) := by rw [IntKind.wrap_u8]; exact b1
          have p0 : IntKind.u8.wrap (X.toNat : Int) = (B0.toNat : Int) := by rw [IntKind.wrap_u8]; exact b0
          clear b4 b3 b2 b1 b0
          have i0 : (0 : Int) ≤ (k : Int) := by omega
          have i1 : (k : Int) < 4 := by omega
          have HCA := Lib.hid ca
          clear ca
          have HOX := Lib.hid (HO.out.q (Q.refl wr).drew)
          have HQX := Lib.hid HQQ.out.drew
          go_region_held3 (fun w' => w'.cell? ⟨gh, k, none⟩ = some (.int .u32 (X.toNat : Int))) (first | go_keep | exact hq2.cell HCA.out) ((refine step_append_b (by rfl) (.tmp 182) (.tmp 202) (by rfl) wq wr.drew _ F (by rfl) HOX.out HQX.out [B0, B1, B2, B3] 4 rfl (by rfl) (by omega) ?_; intro v2 w9 hown2 hq2 _))
          have HO2 := Lib.hid hown2
          have HQ2 := Lib.hid hq2
          clear hown2 hq2
          go_wp2_with fail
          clear p3 p2 p1 p0
          go_roundw
          case rel => exact ⟨k + 1, by omega, by go_num, by rw [HSN.out]; exact HO2.out, HQ2.out⟩
          case measure => simp [intOf]; omega
        · obtain rfl : k = 4 := by omega
          rw [show ((4 : Nat) : Int) = 4 from rfl]
          have hd8 : decide ((4 : Int) < 4) = false := by decide
          rw [List.take_of_length_le (by omega), ← HSHA.out] at hO
          have hcv := conv_b hO
          have HQQ := Lib.hid (HQ4.out.trans hq)
          clear hO hq
          go_wp2_with fail
          go_ret
          exact ⟨rfl, HQQ.out⟩
end Go.Proofs.Yteadblkkbbhpjaa
