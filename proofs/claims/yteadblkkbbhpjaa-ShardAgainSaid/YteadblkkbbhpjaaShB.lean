/- SHA-256: one block. -/
import Derived.Test.YteadblkkbbhpjaaShG
set_option linter.unusedVariables false
namespace Go.Proofs.Yteadblkkbbhpjaa
open Go Go.RowKit
set_option maxRecDepth 100000 in
set_option maxHeartbeats 20000000 in
theorem mix256_any (sb cap : Nat) (s : St8) (b' : List UInt8) (w : World) (hb : b'.length = 64) (hs : StAt w sb s.list) :
    Calls Try.prog 71 #[.slice (some ⟨sb, 0, none⟩) 8 cap, .agg (arrB b')] w fun e w' => e = .returned (.tuple #[]) ∧ StAt w' sb (mix256L s b').list ∧ w.grownBy w' (some sb) := by
  go_enter Try.func71, Try.ntmps71
  iterate 9 go_step
  refine wp_seq_k fun K hK => ?_
  refine wp_region_lit ?_
  refine build_const rfl 83 (partsOf k256) (arrM k256) (some _) rfl (by kernel_rfl) k256_built ?_
  iterate 3 go_step
  refine wpList_store_row rfl 83 _ _ rfl (w.heap.size + 1) (arrM k256) ?_ ?_ 83 _ (heap_alloc2_new _ _ _) (by rw [arr_size]; exact info64) rfl (arr_all _) ?_
  · rfl
  · rfl
  obtain ⟨w3, hw3, hsz, hB, hK2, hq⟩ := mix_start w b' hb _
  rw [← hw3]
  clear hw3
  go_wp2_with fail
  clear hb
  have hw4 : ∃ w4, w4 = w3.alloc (.cells (arrM (List.replicate 64 0#32)) 83) ∧ w4.heap.size = w.heap.size + 3 ∧ BytAt w4 w.heap.size b' ∧ ArrAt w4 (w.heap.size + 1) k256 ∧ ArrAt w4 (w.heap.size + 2) (List.replicate 64 0#32) ∧ Q w w4 := by
    refine ⟨_, rfl, by simp [hsz], hB.alloc _, hK2.alloc _, ?_, hq.alloc _⟩
    have := ArrAt.new w3 (List.replicate 64 0#32) rfl
    rw [hsz] at this
    exact this
  obtain ⟨w4, hw4, hsz4, hB4, hK4, hZ4, hq4⟩ := hw4
  refine Eq.mp (congrArg _ hw4) ?_
  clear hw4 hq hK2 hB hsz
  go_loopw [27] (fun i wr => ∃ k : Nat, k ≤ 64 ∧ i = .int .i64 k ∧ BytAt wr w.heap.size b' ∧ ArrAt wr (w.heap.size + 1) k256 ∧ ArrAt wr (w.heap.size + 2) (wordsZ b' k) ∧ Q w wr) (fun i _ => 64 - (intOf i).toNat)
  case atStart => exact ⟨0, by omega, rfl, hB4, hK4, hZ4, hq4⟩
  case round =>
    obtain ⟨k, hk, rfl, hB, hK, hZ, hq⟩ := hrel
    by_cases hlt : k < 64
    · by_cases h16 : k < 16
      · have hc0 := hB.cell (4 * k) (by omega)
        have hc1 := hB.cell (4 * k + 1) (by omega)
        have hc2 := hB.cell (4 * k + 2) (by omega)
        have hc3 := hB.cell (4 * k + 3) (by omega)
        have hc := hZ.cell k hlt
        have hf := hZ.frozen k
        have hsl := slice64 wr w.heap.size 0 (4 * k) (4 * (k : Int)) (by omega) (by omega)
        rw [Nat.zero_add] at hsl
        have l1 := hB.lt
        have l2 := hZ.lt
        have HB := Lib.hid hB
        have HK := Lib.hid hK
        have HZ := Lib.hid hZ
        have HQ := Lib.hid hq
        have HS := Lib.hid hs
        clear hB hK hZ hq hs
        go_wp2_with fail
        go_big_region
        go_wp2_with fail
        go_roundw
        case rel =>
          refine ⟨k + 1, by omega, by go_num, BytAt.other HB.out (by omega) _ _, ArrAt.other HK.out (by omega) _ _, ?_, (Q.setNew HQ.out (by simp) _).drew⟩
          rw [be_bits, ← wordsZ_set b' k hlt]
          have e1 : be (gB b' (4 * k)) (gB b' (4 * k + 1)) (gB b' (4 * k + 2)) (gB b' (4 * k + 3)) = wordN b' (wordsN b' k) k := by unfold wordN; rw [if_pos h16]
          rw [e1]
          exact ArrAt.set HZ.out k _
        case measure => simp [intOf]; omega
      · obtain ⟨m, rfl⟩ : ∃ m, k = m + 16 := ⟨k - 16, by omega⟩
        have g0 := wordsZ_old b' (m + 16) m (by omega)
        have g1 := wordsZ_old b' (m + 16) (m + 1) (by omega)
        have g9 := wordsZ_old b' (m + 16) (m + 9) (by omega)
        have g14 := wordsZ_old b' (m + 16) (m + 14) (by omega)
        have hc0 := hZ.cell m (by omega)
        have hc1 := hZ.cell (m + 1) (by omega)
        have hc9 := hZ.cell (m + 9) (by omega)
        have hc14 := hZ.cell (m + 14) (by omega)
        have hc := hZ.cell (m + 16) hlt
        rw [g0] at hc0
        rw [g1] at hc1
        rw [g9] at hc9
        rw [g14] at hc14
        clear g0 g1 g9 g14
        have hf := hZ.frozen (m + 16)
        have l1 := hB.lt
        have l2 := hZ.lt
        have HB := Lib.hid hB
        have HK := Lib.hid hK
        have HZ := Lib.hid hZ
        have HQ := Lib.hid hq
        have HS := Lib.hid hs
        have i1 : (((m + 16 : Nat) : Int) - 15) = ((m + 1 : Nat) : Int) := by omega
        have i2 : (((m + 16 : Nat) : Int) - 2) = ((m + 14 : Nat) : Int) := by omega
        have i3 : (((m + 16 : Nat) : Int) - 16) = ((m : Nat) : Int) := by omega
        have i4 : (((m + 16 : Nat) : Int) - 7) = ((m + 9 : Nat) : Int) := by omega
        clear hB hK hZ hq hs h16
        have h16 : decide (((m + 16 : Nat) : Int) < 16) = false := by simp; omega
        have h64 : decide (((m + 16 : Nat) : Int) < 64) = true := by simp; omega
        have m1 := mixS_bits (gW (wordsN b' (m + 16)) (m + 1))
        have m2 := mixT_bits (gW (wordsN b' (m + 16)) (m + 14))
        go_wp2_with fail
        have q1 := fun m : QW wr => m.cell hc1
        refine wp_region_q (by kernel_rfl) (by kernel_rfl) ?_
        (repeat (go_big_quiet_step ((go_at_call 80; exact calls_qs (turnK _ _ _ (by decide) (by decide))))))
        refine wpQuiet_nil ?_
        rintro wa ⟨ma, hma⟩
        have hqa : Q wr wa := by rw [hma]; exact ma.le
        clear hma ma
        clear q1 m1
        replace hc0 := hqa.cell hc0
        replace hc9 := hqa.cell hc9
        replace hc14 := hqa.cell hc14
        have q14 := fun m : QW wa => m.cell hc14
        go_wp2_with fail
        refine wp_region_q (by kernel_rfl) (by kernel_rfl) ?_
        (repeat (go_big_quiet_step ((go_at_call 80; exact calls_qs (turnK _ _ _ (by decide) (by decide))))))
        refine wpQuiet_nil ?_
        rintro wb ⟨mb, hmb⟩
        have hqb : Q wa wb := by rw [hmb]; exact mb.le
        clear hmb mb
        clear q14 m2 hc14 hc1
        have hqc := hqa.trans hqb
        replace hc0 := hqb.cell hc0
        replace hc9 := hqb.cell hc9
        replace hc := hqc.cell hc
        replace hf := (HZ.out.q hqc).frozen (m + 16)
        replace l1 := (HB.out.q hqc).lt
        replace l2 := (HZ.out.q hqc).lt
        go_wp2_with fail
        go_big_region
        go_wp2_with fail
        go_roundw
        case rel =>
          refine ⟨m + 16 + 1, by omega, by go_num, BytAt.other (HB.out.q hqc) (by omega) _ _, ArrAt.other (HK.out.q hqc) (by omega) _ _, ?_, (Q.setNew (HQ.out.trans hqc) (by simp) _).drew⟩
          rw [← wordsZ_set b' (m + 16) hlt]
          have e1 : ((gW (wordsN b' (m + 16)) m).toNat + (mixS (gW (wordsN b' (m + 16)) (m + 1))).toNat + (gW (wordsN b' (m + 16)) (m + 9)).toNat + (mixT (gW (wordsN b' (m + 16)) (m + 14))).toNat : Int) % 4294967296 = ((wordN b' (wordsN b' (m + 16)) (m + 16)).toNat : Int) := by
            unfold wordN
            rw [if_neg (by omega), ad_val, ad_val, ad_val]
            rw [show m + 16 - 16 = m from by omega, show m + 16 - 15 = m + 1 from by omega, show m + 16 - 7 = m + 9 from by omega, show m + 16 - 2 = m + 14 from by omega]
            omega
          rw [e1]
          exact ArrAt.set (HZ.out.q hqc) (m + 16) _
        case measure => simp [intOf]; omega
    · obtain rfl : k = 64 := by omega
      rw [show ((64 : Nat) : Int) = 64 from rfl]
      rw [wordsZ_all] at hZ
      replace hs := hs.q hq
      obtain ⟨w5, hcp, hsz5, hV, hq5⟩ := copy_state wr sb cap s hs
      replace hs := hs.q hq5
      replace hK := hK.q hq5
      replace hZ := hZ.q hq5
      replace hq := hq.trans hq5
      have HS := Lib.hid hs
      have HK := Lib.hid hK
      have HZ := Lib.hid hZ
      have HQ := Lib.hid hq
      have HV := Lib.hid hV
      have v0 := hV.cell 0 (by decide)
      have v1 := hV.cell 1 (by decide)
      have v2 := hV.cell 2 (by decide)
      have v3 := hV.cell 3 (by decide)
      have v4 := hV.cell 4 (by decide)
      have v5 := hV.cell 5 (by decide)
      have v6 := hV.cell 6 (by decide)
      have v7 := hV.cell 7 (by decide)
      have lv := hV.lt
      clear hs hK hZ hq hV hB hlt hk
      go_wp2_with fail
      have y0 := fun m : QW w5 => m.cell v0
      have y1 := fun m : QW w5 => m.cell v1
      have y2 := fun m : QW w5 => m.cell v2
      have y3 := fun m : QW w5 => m.cell v3
      have y4 := fun m : QW w5 => m.cell v4
      have y5 := fun m : QW w5 => m.cell v5
      have y6 := fun m : QW w5 => m.cell v6
      have y7 := fun m : QW w5 => m.cell v7
      clear v0 v1 v2 v3 v4 v5 v6 v7 hcp
      refine wp_region_q (by kernel_rfl) (by kernel_rfl) ?_
      (repeat (go_big_quiet_step (fail)))
      refine wpQuiet_nil ?_
      rintro w6 ⟨m6, hm6⟩
      have hq6 : Q w5 w6 := by rw [hm6]; exact m6.le
      clear hm6 m6 y0 y1 y2 y3 y4 y5 y6 y7
      go_wp2_with fail
      have hQ6 := HQ.out.trans hq6
      have hK6 := HK.out.q hq6
      have hZ6 := HZ.out.q hq6
      have hS6 := HS.out.q hq6
      have hl6 := Nat.lt_of_lt_of_le lv hq6.size
      clear HQ HK HZ HS HV hq6 lv hsz5 hq5
      have HQ := Lib.hid hQ6
      have HK := Lib.hid hK6
      have HZ := Lib.hid hZ6
      have HS := Lib.hid hS6
      clear hQ6 hK6 hZ6 hS6
      go_loopw [12, 13, 14, 15, 16, 17, 18, 19, 132] (fun a b c d e f g h i wz => ∃ k : Nat, k ≤ 64 ∧ i = .int .i64 k ∧ a = .int .u32 ((roundsN (wordsN b' 64) s k).a.toNat : Int) ∧ b = .int .u32 ((roundsN (wordsN b' 64) s k).b.toNat : Int) ∧ c = .int .u32 ((roundsN (wordsN b' 64) s k).c.toNat : Int) ∧
        d = .int .u32 ((roundsN (wordsN b' 64) s k).d.toNat : Int) ∧ e = .int .u32 ((roundsN (wordsN b' 64) s k).e.toNat : Int) ∧ f = .int .u32 ((roundsN (wordsN b' 64) s k).f.toNat : Int) ∧ g = .int .u32 ((roundsN (wordsN b' 64) s k).g.toNat : Int) ∧ h = .int .u32 ((roundsN (wordsN b' 64) s k).h.toNat : Int) ∧ Q w6 wz) (fun _ _ _ _ _ _ _ _ i _ => 64 - (intOf i).toNat)
      case atStart => exact ⟨0, by omega, rfl, rfl, rfl, rfl, rfl, rfl, rfl, rfl, rfl, Q.refl _⟩
      case round =>
        obtain ⟨k, hk, rfl, rfl, rfl, rfl, rfl, rfl, rfl, rfl, rfl, hqz⟩ := hrel
        by_cases hlt : k < 64
        · have h64 : decide ((k : Int) < 64) = true := by simp; omega
          have hRs : roundsN (wordsN b' 64) s (k + 1) = round8 (wordsN b' 64) (roundsN (wordsN b' 64) s k) k := rfl
          generalize roundsN (wordsN b' 64) s k = R at *
          have HRS := Lib.hid hRs
          have ck := (HK.out.q hqz).cell k hlt
          have cw := (HZ.out.q hqz).cell k hlt
          generalize hKK : gW k256 k = KK at ck
          generalize hWW : gW (wordsN b' 64) k = WW at cw
          have HKK := Lib.hid hKK
          have HWW := Lib.hid hWW
          have HQZ := Lib.hid hqz
          have yk := fun m : QW wr => m.cell ck
          have yw := fun m : QW wr => m.cell cw
          clear hRs hKK hWW hqz ck cw
          have s1 : bits .xor .u32 (bits .xor .u32 ((tr 6 R.e).toNat : Int) ((tr 11 R.e).toNat : Int)) ((tr 25 R.e).toNat : Int) = ((xo (xo (rl 26 R.e) (rl 21 R.e)) (rl 7 R.e)).toNat : Int) := by rw [xor32, xor32]; rfl
          have s2 : bits .xor .u32 (bits .xor .u32 ((tr 2 R.a).toNat : Int) ((tr 13 R.a).toNat : Int)) ((tr 22 R.a).toNat : Int) = ((xo (xo (rl 30 R.a) (rl 19 R.a)) (rl 10 R.a)).toNat : Int) := by rw [xor32, xor32]; rfl
          have n1 : bits .xor .u32 IntKind.u32.max (R.e.toNat : Int) = ((no R.e).toNat : Int) := not32m _
          have n2 : bits .xor .u32 4294967295 (R.e.toNat : Int) = ((no R.e).toNat : Int) := not32 _
          have n3 : bits .xor .u32 (if IntKind.u32.signed = true then -1 else IntKind.u32.max) (R.e.toNat : Int) = ((no R.e).toNat : Int) := not32m _
          have a1 : bits .and .u32 (R.e.toNat : Int) (R.f.toNat : Int) = ((an R.e R.f).toNat : Int) := and32 _ _
          have a2 : bits .and .u32 ((no R.e).toNat : Int) (R.g.toNat : Int) = ((an (no R.e) R.g).toNat : Int) := and32 _ _
          have a3 : bits .xor .u32 ((an R.e R.f).toNat : Int) ((an (no R.e) R.g).toNat : Int) = ((xo (an R.e R.f) (an (no R.e) R.g)).toNat : Int) := xor32 _ _
          have a4 : bits .and .u32 (R.a.toNat : Int) (R.b.toNat : Int) = ((an R.a R.b).toNat : Int) := and32 _ _
          have a5 : bits .and .u32 (R.a.toNat : Int) (R.c.toNat : Int) = ((an R.a R.c).toNat : Int) := and32 _ _
          have a6 : bits .and .u32 (R.b.toNat : Int) (R.c.toNat : Int) = ((an R.b R.c).toNat : Int) := and32 _ _
          have a7 : bits .xor .u32 (bits .xor .u32 ((an R.a R.b).toNat : Int) ((an R.a R.c).toNat : Int)) ((an R.b R.c).toNat : Int) = ((xo (xo (an R.a R.b) (an R.a R.c)) (an R.b R.c)).toNat : Int) := by rw [xor32, xor32]; rfl
          go_wp2_with (go_at_call 80; refine (turnK _ _ _ (by decide) (by decide)).mono ?_; rintro e w' ⟨rfl, rfl⟩)
          refine wp_region_q (by kernel_rfl) (by kernel_rfl) ?_
          (repeat (go_big_quiet_step (fail)))
          refine wpQuiet_nil ?_
          rintro w7 ⟨m7, hm7⟩
          have hq7 : Q wr w7 := by rw [hm7]; exact m7.le
          clear hm7 m7 yk yw a1 a2 a3 s1 n1 n2 n3
          go_wp2_with (go_at_call 80; refine (turnK _ _ _ (by decide) (by decide)).mono ?_; rintro e w' ⟨rfl, rfl⟩)
          clear a4 a5 a6 a7 s2 h64
          go_roundw
          case rel =>
            refine ⟨k + 1, by omega, by go_num, ?_, ?_, ?_, ?_, ?_, ?_, ?_, ?_, HQZ.out.trans hq7⟩
            · rw [HRS.out, round_a _ _ _ _ _ HKK.out HWW.out]
            · rw [HRS.out]; rfl
            · rw [HRS.out]; rfl
            · rw [HRS.out]; rfl
            · rw [HRS.out, round_e _ _ _ _ _ HKK.out HWW.out]
            · rw [HRS.out]; rfl
            · rw [HRS.out]; rfl
            · rw [HRS.out]; rfl
          case measure => simp [intOf]; omega
        · obtain rfl : k = 64 := by omega
          rw [show ((64 : Nat) : Int) = 64 from rfl]
          have hR : mix256L s b' = add8 s (roundsN (wordsN b' 64) s 64) := rfl
          generalize roundsN (wordsN b' 64) s 64 = R at *
          have HR := Lib.hid hR
          have HQZ := Lib.hid (HQ.out.trans hqz)
          have HSZ := Lib.hid (HS.out.q hqz)
          clear hR hqz hlt hk HQ HS HK HZ hl6
          go_wp2_with fail
          go_loopw [211] (fun i wz => ∃ k : Nat, k ≤ 8 ∧ i = .int .i64 k ∧ StAt wz sb (addP s.list R.list k) ∧ w.grownBy wz (some sb)) (fun i _ => 8 - (intOf i).toNat)
          case atStart => exact ⟨0, by omega, rfl, HSZ.out, HQZ.out.gb _⟩
          case round =>
            obtain ⟨k, hk, rfl, hS, hg⟩ := hrel
            by_cases hlt : k < 8
            · have h8 : decide ((k : Int) < 8) = true := by simp; omega
              have hi := index8 R k hlt
              have hc := (hS k (by rw [addP_length]; exact hlt)).1
              have hf := (hS k (by rw [addP_length]; exact hlt)).2
              rw [addP_old _ _ _ _ (Nat.le_refl k)] at hc
              have HS := Lib.hid hS
              have HG := Lib.hid hg
              clear hS hg
              go_wp2_with fail
              go_roundw
              case rel =>
                refine ⟨k + 1, by omega, by go_num, ?_, gb_set HG.out _ _⟩
                have e1 := StAt.set HS.out k (ad (gW s.list k) (gW R.list k)) (by rw [addP_length]; exact hlt)
                rw [ad_val] at e1
                exact e1
              case measure => simp [intOf]; omega
            · obtain rfl : k = 8 := by omega
              rw [addP_all, ← HR.out] at hS
              have HS := Lib.hid hS
              have HG := Lib.hid hg
              clear hS hg
              go_wp2_with fail
              go_end0
              exact ⟨rfl, HS.out, HG.out⟩
end Go.Proofs.Yteadblkkbbhpjaa
