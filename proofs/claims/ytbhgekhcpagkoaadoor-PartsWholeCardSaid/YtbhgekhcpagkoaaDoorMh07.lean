/- Texts of this proof, laid into one: ShB, Md, MdB, HsE, DgN, RfA2, RfB2. -/
import Derived.Test.YtbhgekhcpagkoaaDoorMh06
import Derived.Deep.DeepCutAuto
import Derived.Deep.CutBlock
import Derived.Deep.MidRow
import Derived.Deep.RegionHeld3
/- SHA-256: one block. -/
set_option linter.unusedVariables false
namespace Go.Proofs.YtbhgekhcpagkoaaDoor
open Go Go.RowKit
set_option maxRecDepth 100000 in
set_option maxHeartbeats 20000000 in
theorem mix256_any (sb cap : Nat) (s : St8) (b' : List UInt8) (w : World) (hb : b'.length = 64) (hs : StAt w sb s.list) :
    Calls Tryd.prog 53 #[.slice (some ⟨sb, 0, none⟩) 8 cap, .agg (arrB b')] w fun e w' => e = .returned (.tuple #[]) ∧ StAt w' sb (mix256L s b').list ∧ w.grownBy w' (some sb) := by
  go_enter Tryd.func53, Tryd.ntmps53
  iterate 9 go_step
  refine wp_seq_k fun K hK => ?_
  refine wp_region_lit ?_
  refine build_const rfl 79 (partsOf k256) (arrM k256) (some _) rfl (by kernel_rfl) k256_built ?_
  iterate 3 go_step
  refine wpList_store_row rfl 79 _ _ rfl (w.heap.size + 1) (arrM k256) ?_ ?_ 79 _ (heap_alloc2_new _ _ _) (by rw [arr_size]; exact info64) rfl (arr_all _) ?_
  · rfl
  · rfl
  obtain ⟨w3, hw3, hsz, hB, hK2, hq⟩ := mix_start w b' hb _
  rw [← hw3]
  clear hw3
  go_wp2_with fail
  clear hb
  have hw4 : ∃ w4, w4 = w3.alloc (.cells (arrM (List.replicate 64 0#32)) 79) ∧ w4.heap.size = w.heap.size + 3 ∧ BytAt w4 w.heap.size b' ∧ ArrAt w4 (w.heap.size + 1) k256 ∧ ArrAt w4 (w.heap.size + 2) (List.replicate 64 0#32) ∧ Q w w4 := by
    refine ⟨_, rfl, by simp [hsz], hB.alloc _, hK2.alloc _, ?_, hq.alloc _⟩
    have := ArrAt.new w3 (List.replicate 64 0#32) rfl
    rw [hsz] at this
    exact this
  obtain ⟨w4, hw4, hsz4, hB4, hK4, hZ4, hq4⟩ := hw4
  refine Eq.mp (congrArg _ hw4) ?_
  clear hw4 hq hK2 hB hsz
  go_loopw [27] (fun i wr => ∃ k : Nat, k ≤ 64 ∧ i = .int .i64 k ∧ BytAt wr w.heap.size b' ∧ ArrAt wr (w.heap.size + 1) k256 ∧ ArrAt wr (w.heap.size + 2) (wordsZ b' k) ∧ Q w wr) (fun i _ => 64 - (intOf i).toNat)
  case atStart => exact ⟨0, by omega, rfl, hB4, hK4, hZ4, hq4⟩
  case round =>
    obtain ⟨k, hk, rfl, hB, hK, hZ, hq⟩ := hrel
    by_cases hlt : k < 64
    · by_cases h16 : k < 16
      · have hc0 := hB.cell (4 * k) (by omega)
        have hc1 := hB.cell (4 * k + 1) (by omega)
        have hc2 := hB.cell (4 * k + 2) (by omega)
        have hc3 := hB.cell (4 * k + 3) (by omega)
        have hc := hZ.cell k hlt
        have hf := hZ.frozen k
        have hsl := slice64 wr w.heap.size 0 (4 * k) (4 * (k : Int)) (by omega) (by omega)
        rw [Nat.zero_add] at hsl
        have l1 := hB.lt
        have l2 := hZ.lt
        have HB := Lib.hid hB
        have HK := Lib.hid hK
        have HZ := Lib.hid hZ
        have HQ := Lib.hid hq
        have HS := Lib.hid hs
        clear hB hK hZ hq hs
        go_wp2_with fail
        go_big_region
        go_wp2_with fail
        go_roundw
        case rel =>
          refine ⟨k + 1, by omega, by go_num, BytAt.other HB.out (by omega) _ _, ArrAt.other HK.out (by omega) _ _, ?_, (Q.setNew HQ.out (by simp) _).drew⟩
          rw [be_bits, ← wordsZ_set b' k hlt]
          have e1 : be (gB b' (4 * k)) (gB b' (4 * k + 1)) (gB b' (4 * k + 2)) (gB b' (4 * k + 3)) = wordN b' (wordsN b' k) k := by unfold wordN; rw [if_pos h16]
          rw [e1]
          exact ArrAt.set HZ.out k _
        case measure => simp [intOf]; omega
      · obtain ⟨m, rfl⟩ : ∃ m, k = m + 16 := ⟨k - 16, by omega⟩
        have g0 := wordsZ_old b' (m + 16) m (by omega)
        have g1 := wordsZ_old b' (m + 16) (m + 1) (by omega)
        have g9 := wordsZ_old b' (m + 16) (m + 9) (by omega)
        have g14 := wordsZ_old b' (m + 16) (m + 14) (by omega)
        have hc0 := hZ.cell m (by omega)
        have hc1 := hZ.cell (m + 1) (by omega)
        have hc9 := hZ.cell (m + 9) (by omega)
        have hc14 := hZ.cell (m + 14) (by omega)
        have hc := hZ.cell (m + 16) hlt
        rw [g0] at hc0
        rw [g1] at hc1
        rw [g9] at hc9
        rw [g14] at hc14
        clear g0 g1 g9 g14
        have hf := hZ.frozen (m + 16)
        have l1 := hB.lt
        have l2 := hZ.lt
        have HB := Lib.hid hB
        have HK := Lib.hid hK
        have HZ := Lib.hid hZ
        have HQ := Lib.hid hq
        have HS := Lib.hid hs
        have i1 : (((m + 16 : Nat) : Int) - 15) = ((m + 1 : Nat) : Int) := by omega
        have i2 : (((m + 16 : Nat) : Int) - 2) = ((m + 14 : Nat) : Int) := by omega
        have i3 : (((m + 16 : Nat) : Int) - 16) = ((m : Nat) : Int) := by omega
        have i4 : (((m + 16 : Nat) : Int) - 7) = ((m + 9 : Nat) : Int) := by omega
        clear hB hK hZ hq hs h16
        have h16 : decide (((m + 16 : Nat) : Int) < 16) = false := by simp; omega
        have h64 : decide (((m + 16 : Nat) : Int) < 64) = true := by simp; omega
        have m1 := mixS_bits (gW (wordsN b' (m + 16)) (m + 1))
        have m2 := mixT_bits (gW (wordsN b' (m + 16)) (m + 14))
        go_wp2_with fail
        have q1 := fun m : QW wr => m.cell hc1
        refine wp_region_q (by kernel_rfl) (by kernel_rfl) ?_
        (repeat (go_big_quiet_step ((go_at_call 60; exact calls_qs (turnK _ _ _ (by decide) (by decide))))))
        refine wpQuiet_nil ?_
        rintro wa ⟨ma, hma⟩
        have hqa : Q wr wa := by rw [hma]; exact ma.le
        clear hma ma
        clear q1 m1
        replace hc0 := hqa.cell hc0
        replace hc9 := hqa.cell hc9
        replace hc14 := hqa.cell hc14
        have q14 := fun m : QW wa => m.cell hc14
        go_wp2_with fail
        refine wp_region_q (by kernel_rfl) (by kernel_rfl) ?_
        (repeat (go_big_quiet_step ((go_at_call 60; exact calls_qs (turnK _ _ _ (by decide) (by decide))))))
        refine wpQuiet_nil ?_
        rintro wb ⟨mb, hmb⟩
        have hqb : Q wa wb := by rw [hmb]; exact mb.le
        clear hmb mb
        clear q14 m2 hc14 hc1
        have hqc := hqa.trans hqb
        replace hc0 := hqb.cell hc0
        replace hc9 := hqb.cell hc9
        replace hc := hqc.cell hc
        replace hf := (HZ.out.q hqc).frozen (m + 16)
        replace l1 := (HB.out.q hqc).lt
        replace l2 := (HZ.out.q hqc).lt
        go_wp2_with fail
        go_big_region
        go_wp2_with fail
        go_roundw
        case rel =>
          refine ⟨m + 16 + 1, by omega, by go_num, BytAt.other (HB.out.q hqc) (by omega) _ _, ArrAt.other (HK.out.q hqc) (by omega) _ _, ?_, (Q.setNew (HQ.out.trans hqc) (by simp) _).drew⟩
          rw [← wordsZ_set b' (m + 16) hlt]
          have e1 : ((gW (wordsN b' (m + 16)) m).toNat + (mixS (gW (wordsN b' (m + 16)) (m + 1))).toNat + (gW (wordsN b' (m + 16)) (m + 9)).toNat + (mixT (gW (wordsN b' (m + 16)) (m + 14))).toNat : Int) % 4294967296 = ((wordN b' (wordsN b' (m + 16)) (m + 16)).toNat : Int) := by
            unfold wordN
            rw [if_neg (by omega), ad_val, ad_val, ad_val]
            rw [show m + 16 - 16 = m from by omega, show m + 16 - 15 = m + 1 from by omega, show m + 16 - 7 = m + 9 from by omega, show m + 16 - 2 = m + 14 from by omega]
            omega
          rw [e1]
          exact ArrAt.set (HZ.out.q hqc) (m + 16) _
        case measure => simp [intOf]; omega
    · obtain rfl : k = 64 := by omega
      rw [show ((64 : Nat) : Int) = 64 from rfl]
      rw [wordsZ_all] at hZ
      replace hs := hs.q hq
      obtain ⟨w5, hcp, hsz5, hV, hq5⟩ := copy_state wr sb cap s hs
      replace hs := hs.q hq5
      replace hK := hK.q hq5
      replace hZ := hZ.q hq5
      replace hq := hq.trans hq5
      have HS := Lib.hid hs
      have HK := Lib.hid hK
      have HZ := Lib.hid hZ
      have HQ := Lib.hid hq
      have HV := Lib.hid hV
      have v0 := hV.cell 0 (by decide)
      have v1 := hV.cell 1 (by decide)
      have v2 := hV.cell 2 (by decide)
      have v3 := hV.cell 3 (by decide)
      have v4 := hV.cell 4 (by decide)
      have v5 := hV.cell 5 (by decide)
      have v6 := hV.cell 6 (by decide)
      have v7 := hV.cell 7 (by decide)
      have lv := hV.lt
      clear hs hK hZ hq hV hB hlt hk
      go_wp2_with fail
      have y0 := fun m : QW w5 => m.cell v0
      have y1 := fun m : QW w5 => m.cell v1
      have y2 := fun m : QW w5 => m.cell v2
      have y3 := fun m : QW w5 => m.cell v3
      have y4 := fun m : QW w5 => m.cell v4
      have y5 := fun m : QW w5 => m.cell v5
      have y6 := fun m : QW w5 => m.cell v6
      have y7 := fun m : QW w5 => m.cell v7
      clear v0 v1 v2 v3 v4 v5 v6 v7 hcp
      refine wp_region_q (by kernel_rfl) (by kernel_rfl) ?_
      (repeat (go_big_quiet_step (fail)))
      refine wpQuiet_nil ?_
      rintro w6 ⟨m6, hm6⟩
      have hq6 : Q w5 w6 := by rw [hm6]; exact m6.le
      clear hm6 m6 y0 y1 y2 y3 y4 y5 y6 y7
      go_wp2_with fail
      have hQ6 := HQ.out.trans hq6
      have hK6 := HK.out.q hq6
      have hZ6 := HZ.out.q hq6
      have hS6 := HS.out.q hq6
      have hl6 := Nat.lt_of_lt_of_le lv hq6.size
      clear HQ HK HZ HS HV hq6 lv hsz5 hq5
      have HQ := Lib.hid hQ6
      have HK := Lib.hid hK6
      have HZ := Lib.hid hZ6
      have HS := Lib.hid hS6
      clear hQ6 hK6 hZ6 hS6
      go_loopw [12, 13, 14, 15, 16, 17, 18, 19, 132] (fun a b c d e f g h i wz => ∃ k : Nat, k ≤ 64 ∧ i = .int .i64 k ∧ a = .int .u32 ((roundsN (wordsN b' 64) s k).a.toNat : Int) ∧ b = .int .u32 ((roundsN (wordsN b' 64) s k).b.toNat : Int) ∧ c = .int .u32 ((roundsN (wordsN b' 64) s k).c.toNat : Int) ∧
        d = .int .u32 ((roundsN (wordsN b' 64) s k).d.toNat : Int) ∧ e = .int .u32 ((roundsN (wordsN b' 64) s k).e.toNat : Int) ∧ f = .int .u32 ((roundsN (wordsN b' 64) s k).f.toNat : Int) ∧ g = .int .u32 ((roundsN (wordsN b' 64) s k).g.toNat : Int) ∧ h = .int .u32 ((roundsN (wordsN b' 64) s k).h.toNat : Int) ∧ Q w6 wz) (fun _ _ _ _ _ _ _ _ i _ => 64 - (intOf i).toNat)
      case atStart => exact ⟨0, by omega, rfl, rfl, rfl, rfl, rfl, rfl, rfl, rfl, rfl, Q.refl _⟩
      case round =>
        obtain ⟨k, hk, rfl, rfl, rfl, rfl, rfl, rfl, rfl, rfl, rfl, hqz⟩ := hrel
        by_cases hlt : k < 64
        · have h64 : decide ((k : Int) < 64) = true := by simp; omega
          have hRs : roundsN (wordsN b' 64) s (k + 1) = round8 (wordsN b' 64) (roundsN (wordsN b' 64) s k) k := rfl
          generalize roundsN (wordsN b' 64) s k = R at *
          have HRS := Lib.hid hRs
          have ck := (HK.out.q hqz).cell k hlt
          have cw := (HZ.out.q hqz).cell k hlt
          generalize hKK : gW k256 k = KK at ck
          generalize hWW : gW (wordsN b' 64) k = WW at cw
          have HKK := Lib.hid hKK
          have HWW := Lib.hid hWW
          have HQZ := Lib.hid hqz
          have yk := fun m : QW wr => m.cell ck
          have yw := fun m : QW wr => m.cell cw
          clear hRs hKK hWW hqz ck cw
          have s1 : bits .xor .u32 (bits .xor .u32 ((tr 6 R.e).toNat : Int) ((tr 11 R.e).toNat : Int)) ((tr 25 R.e).toNat : Int) = ((xo (xo (rl 26 R.e) (rl 21 R.e)) (rl 7 R.e)).toNat : Int) := by rw [xor32, xor32]; rfl
          have s2 : bits .xor .u32 (bits .xor .u32 ((tr 2 R.a).toNat : Int) ((tr 13 R.a).toNat : Int)) ((tr 22 R.a).toNat : Int) = ((xo (xo (rl 30 R.a) (rl 19 R.a)) (rl 10 R.a)).toNat : Int) := by rw [xor32, xor32]; rfl
          have n1 : bits .xor .u32 IntKind.u32.max (R.e.toNat : Int) = ((no R.e).toNat : Int) := not32m _
          have n2 : bits .xor .u32 4294967295 (R.e.toNat : Int) = ((no R.e).toNat : Int) := not32 _
          have n3 : bits .xor .u32 (if IntKind.u32.signed = true then -1 else IntKind.u32.max) (R.e.toNat : Int) = ((no R.e).toNat : Int) := not32m _
          have a1 : bits .and .u32 (R.e.toNat : Int) (R.f.toNat : Int) = ((an R.e R.f).toNat : Int) := and32 _ _
          have a2 : bits .and .u32 ((no R.e).toNat : Int) (R.g.toNat : Int) = ((an (no R.e) R.g).toNat : Int) := and32 _ _
          have a3 : bits .xor .u32 ((an R.e R.f).toNat : Int) ((an (no R.e) R.g).toNat : Int) = ((xo (an R.e R.f) (an (no R.e) R.g)).toNat : Int) := xor32 _ _
          have a4 : bits .and .u32 (R.a.toNat : Int) (R.b.toNat : Int) = ((an R.a R.b).toNat : Int) := and32 _ _
          have a5 : bits .and .u32 (R.a.toNat : Int) (R.c.toNat : Int) = ((an R.a R.c).toNat : Int) := and32 _ _
          have a6 : bits .and .u32 (R.b.toNat : Int) (R.c.toNat : Int) = ((an R.b R.c).toNat : Int) := and32 _ _
          have a7 : bits .xor .u32 (bits .xor .u32 ((an R.a R.b).toNat : Int) ((an R.a R.c).toNat : Int)) ((an R.b R.c).toNat : Int) = ((xo (xo (an R.a R.b) (an R.a R.c)) (an R.b R.c)).toNat : Int) := by rw [xor32, xor32]; rfl
          go_wp2_with (go_at_call 60; refine (turnK _ _ _ (by decide) (by decide)).mono ?_; rintro e w' ⟨rfl, rfl⟩)
          refine wp_region_q (by kernel_rfl) (by kernel_rfl) ?_
          (repeat (go_big_quiet_step (fail)))
          refine wpQuiet_nil ?_
          rintro w7 ⟨m7, hm7⟩
          have hq7 : Q wr w7 := by rw [hm7]; exact m7.le
          clear hm7 m7 yk yw a1 a2 a3 s1 n1 n2 n3
          go_wp2_with (go_at_call 60; refine (turnK _ _ _ (by decide) (by decide)).mono ?_; rintro e w' ⟨rfl, rfl⟩)
          clear a4 a5 a6 a7 s2 h64
          go_roundw
          case rel =>
            refine ⟨k + 1, by omega, by go_num, ?_, ?_, ?_, ?_, ?_, ?_, ?_, ?_, HQZ.out.trans hq7⟩
            · rw [HRS.out, round_a _ _ _ _ _ HKK.out HWW.out]
            · rw [HRS.out]; rfl
            · rw [HRS.out]; rfl
            · rw [HRS.out]; rfl
            · rw [HRS.out, round_e _ _ _ _ _ HKK.out HWW.out]
            · rw [HRS.out]; rfl
            · rw [HRS.out]; rfl
            · rw [HRS.out]; rfl
          case measure => simp [intOf]; omega
        · obtain rfl : k = 64 := by omega
          rw [show ((64 : Nat) : Int) = 64 from rfl]
          have hR : mix256L s b' = add8 s (roundsN (wordsN b' 64) s 64) := rfl
          generalize roundsN (wordsN b' 64) s 64 = R at *
          have HR := Lib.hid hR
          have HQZ := Lib.hid (HQ.out.trans hqz)
          have HSZ := Lib.hid (HS.out.q hqz)
          clear hR hqz hlt hk HQ HS HK HZ hl6
          go_wp2_with fail
          go_loopw [211] (fun i wz => ∃ k : Nat, k ≤ 8 ∧ i = .int .i64 k ∧ StAt wz sb (addP s.list R.list k) ∧ w.grownBy wz (some sb)) (fun i _ => 8 - (intOf i).toNat)
          case atStart => exact ⟨0, by omega, rfl, HSZ.out, HQZ.out.gb _⟩
          case round =>
            obtain ⟨k, hk, rfl, hS, hg⟩ := hrel
            by_cases hlt : k < 8
            · have h8 : decide ((k : Int) < 8) = true := by simp; omega
              have hi := index8 R k hlt
              have hc := (hS k (by rw [addP_length]; exact hlt)).1
              have hf := (hS k (by rw [addP_length]; exact hlt)).2
              rw [addP_old _ _ _ _ (Nat.le_refl k)] at hc
              have HS := Lib.hid hS
              have HG := Lib.hid hg
              clear hS hg
              go_wp2_with fail
              go_roundw
              case rel =>
                refine ⟨k + 1, by omega, by go_num, ?_, gb_set HG.out _ _⟩
                have e1 := StAt.set HS.out k (ad (gW s.list k) (gW R.list k)) (by rw [addP_length]; exact hlt)
                rw [ad_val] at e1
                exact e1
              case measure => simp [intOf]; omega
            · obtain rfl : k = 8 := by omega
              rw [addP_all, ← HR.out] at hS
              have HS := Lib.hid hS
              have HG := Lib.hid hg
              clear hS hg
              go_wp2_with fail
              go_end0
              exact ⟨rfl, HS.out, HG.out⟩
end Go.Proofs.YtbhgekhcpagkoaaDoor
/- MD5, plain: on lists of bytes. -/
set_option linter.unusedVariables false
namespace Go.Proofs.YtbhgekhcpagkoaaDoor
/-! MD5. -/
structure St4 where
  (a b c d : B32)
def start5 : St4 := ⟨0x67452301#32, 0xefcdab89#32, 0x98badcfe#32, 0x10325476#32⟩
def turns5 : List Nat := [7, 12, 17, 22, 5, 9, 14, 20, 4, 11, 16, 23, 6, 10, 15, 21]
/-- By how many bits a round turns. -/
def rot5 (i : Nat) : Nat := turns5.getD (4 * (i / 16) + i % 4) 0
def f5 (i : Nat) (b c d : B32) : B32 :=
  if i / 16 = 0 then xo d (an b (xo c d)) else if i / 16 = 1 then xo c (an d (xo b c)) else if i / 16 = 2 then xo (xo b c) d else xo c (oo b (no d))
def at5 (i : Nat) : Nat := if i / 16 = 0 then i else if i / 16 = 1 then 5 * i + 1 else if i / 16 = 2 then 3 * i + 5 else 7 * i
def word5 (bl : List UInt8) (i : Nat) : B32 := be (gB bl (4 * (at5 i % 16) + 3)) (gB bl (4 * (at5 i % 16) + 2)) (gB bl (4 * (at5 i % 16) + 1)) (gB bl (4 * (at5 i % 16)))
def round5 (bl : List UInt8) (s : St4) (i : Nat) : St4 :=
  ⟨s.d, ad s.b (rl (rot5 i) (ad (ad (ad s.a (f5 i s.b s.c s.d)) (gW k5 i)) (word5 bl i))), s.b, s.c⟩
def rounds5 (bl : List UInt8) (s : St4) : Nat → St4
  | 0 => s
  | n + 1 => round5 bl (rounds5 bl s n) n
def add4 (s t : St4) : St4 := ⟨ad s.a t.a, ad s.b t.b, ad s.c t.c, ad s.d t.d⟩
def mix5L (s : St4) (bl : List UInt8) : St4 := add4 s (rounds5 bl s 64)
def blocks5 (l : List UInt8) : Nat → St4
  | 0 => start5
  | n + 1 => mix5L (blocks5 l n) (sub l (64 * n) (64 * n + 64))
def le4 (x : B32) : List UInt8 := (be4 x).reverse
def out4 (s : St4) : List UInt8 := le4 s.a ++ le4 s.b ++ le4 s.c ++ le4 s.d
def md5 (l : List UInt8) : List UInt8 := let p := padL false l; out4 (blocks5 p (p.length / 64))
/-- "abc" -/
theorem md5_abc : md5 [97, 98, 99] = [0x90, 0x01, 0x50, 0x98, 0x3c, 0xd2, 0x4f, 0xb0, 0xd6, 0x96, 0x3f, 0x7d, 0x28, 0xe1, 0x7f, 0x72] := by decide +kernel
end Go.Proofs.YtbhgekhcpagkoaaDoor
/- MD5: one block. -/
set_option linter.unusedVariables false
namespace Go.Proofs.YtbhgekhcpagkoaaDoor
open Go Go.RowKit
def St4.list (s : St4) : List B32 := [s.a, s.b, s.c, s.d]
theorem k5_built : Tryd.prog.built 79 (partsOf k5) = some (arrM k5) := by kernel_rfl
/-- The worlds behind the first steps. -/
theorem mix_start5 (w : World) (b : List UInt8) (hb : b.length = 64) (cs : Array Value) :
    ∃ w3, w3 = ((w.alloc (.cells (arrB b) 86)).alloc (.cells cs 79)).setRow (w.heap.size + 1) (arrM k5) ∧ w3.heap.size = w.heap.size + 2 ∧ BytAt w3 w.heap.size b ∧ ArrAt w3 (w.heap.size + 1) k5 ∧ Q w w3 := by
  refine ⟨_, rfl, by simp, ⟨?_, hb⟩, ⟨?_, rfl⟩, Q.setRow (((Q.refl w).alloc _).alloc _) (by omega) _⟩
  · simp only [World.setRow, Array.getElem?_modify]
    rw [if_neg (by omega)]
    exact heap_alloc2_old _ _ _
  · simp only [World.setRow, Array.getElem?_modify, if_true]
    rw [heap_alloc2_new]
    rfl
theorem StAt.lt4 {w : World} {B : Nat} {s : St4} (h : StAt w B s.list) : B < w.heap.size := lt_of_cell (h 0 (by simp [St4.list])).1
theorem StAt.q4 {w w' : World} {B : Nat} {s : St4} (h : StAt w B s.list) (hq : Q w w') : StAt w' B s.list :=
  fun i hi => ⟨hq.cell (h i hi).1, (frozen_q hq h.lt4).trans (h i hi).2⟩
/-- By how many bits each round turns, in a block of its own. -/
def turnsA : Array Value := #[.int .i64 7, .int .i64 12, .int .i64 17, .int .i64 22, .int .i64 5, .int .i64 9, .int .i64 14, .int .i64 20, .int .i64 4, .int .i64 11, .int .i64 16, .int .i64 23, .int .i64 6, .int .i64 10, .int .i64 15, .int .i64 21]
def TurnAt (w : World) (g : Nat) : Prop := w.heap[g]? = some (.cells turnsA 96 (0, 0))
theorem TurnAt.q {w w' : World} {g : Nat} (h : TurnAt w g) (hq : Q w w') : TurnAt w' g := hq.block h
theorem TurnAt.lt {w : World} {g : Nat} (h : TurnAt w g) : g < w.heap.size := lt_of_heap h
theorem turns_at : ∀ i : Nat, i < 64 → turnsA[4 * (i / 16) + i % 4]? = some (.int .i64 (rot5 i : Nat)) := by
  intro i hi
  have h1 : 4 * (i / 16) + i % 4 < 16 := by omega
  unfold rot5
  generalize 4 * (i / 16) + i % 4 = j at h1
  obtain rfl | rfl | rfl | rfl | rfl | rfl | rfl | rfl | rfl | rfl | rfl | rfl | rfl | rfl | rfl | rfl : j = 0 ∨ j = 1 ∨ j = 2 ∨ j = 3 ∨ j = 4 ∨ j = 5 ∨ j = 6 ∨ j = 7 ∨ j = 8 ∨ j = 9 ∨ j = 10 ∨ j = 11 ∨ j = 12 ∨ j = 13 ∨ j = 14 ∨ j = 15 := by omega
  all_goals rfl
theorem TurnAt.cell {w : World} {g : Nat} (h : TurnAt w g) (i : Nat) (hi : i < 64) : w.cell? ⟨g, 4 * (i / 16) + i % 4, none⟩ = some (.int .i64 (rot5 i : Nat)) := by
  unfold World.cell?
  rw [h]
  exact turns_at i hi
theorem round5_eq (bl : List UInt8) (R : St4) (k : Nat) (FF KK WW : B32) (h1 : f5 k R.b R.c R.d = FF) (h2 : gW k5 k = KK) (h3 : word5 bl k = WW) :
    round5 bl R k = ⟨R.d, ad R.b (rl (rot5 k) (ad (ad (ad R.a FF) KK) WW)), R.b, R.c⟩ := by
  unfold round5; rw [h1, h2, h3]
theorem rot_lt : ∀ i : Nat, i < 64 → rot5 i < 32 := by decide +kernel
theorem and31r : ∀ k : Nat, k < 32 → bits .and .u64 (IntKind.u64.wrap (k : Int)) 31 = (k : Int) := by decide +kernel
theorem rotK (x : B32) (i : Nat) (w : World) (h : i < 64) : Calls Tryd.prog 61 #[.int .u32 (x.toNat : Int), .int .i64 (rot5 i : Nat)] w fun e w' => e = .returned (.int .u32 ((rl (rot5 i) x).toNat : Int)) ∧ w = w' :=
  RotateLeft32_any x _ (rot5 i) w (rot_lt i h) (and31r _ (rot_lt i h))
theorem index4 (R : St4) (k : Nat) (h : k < 4) (w : World) : (Instr.index 81 (.agg #[.int .u32 (R.a.toNat : Int), .int .u32 (R.b.toNat : Int), .int .u32 (R.c.toNat : Int), .int .u32 (R.d.toNat : Int)]) (.int .i64 (k : Int))).run Tryd.prog w = .ok (.int .u32 ((gW R.list k).toNat : Int)) w := by
  obtain rfl | rfl | rfl | rfl : k = 0 ∨ k = 1 ∨ k = 2 ∨ k = 3 := by omega
  all_goals kernel_rfl
set_option maxRecDepth 100000 in
set_option maxHeartbeats 20000000 in
theorem mix5_any (sb cap : Nat) (s : St4) (b' : List UInt8) (w : World) (hb : b'.length = 64) (hs : StAt w sb s.list) :
    Calls Tryd.prog 54 #[.slice (some ⟨sb, 0, none⟩) 4 cap, .agg (arrB b')] w fun e w' => e = .returned (.tuple #[]) ∧ StAt w' sb (mix5L s b').list ∧ w.grownBy w' (some sb) := by
  go_enter Tryd.func54, Tryd.ntmps54
  iterate 9 go_step
  refine wp_seq_k fun K hK => ?_
  refine wp_region_lit ?_
  refine build_const rfl 79 (partsOf k5) (arrM k5) (some _) rfl (by kernel_rfl) k5_built ?_
  iterate 3 go_step
  refine wpList_store_row rfl 79 _ _ rfl (w.heap.size + 1) (arrM k5) ?_ ?_ 79 _ (heap_alloc2_new _ _ _) (by rw [arr_size]; exact info64) rfl (arr_all _) ?_
  · rfl
  · rfl
  obtain ⟨w3, hw3, hsz, hB, hK2, hq⟩ := mix_start5 w b' hb _
  rw [← hw3]
  clear hw3
  go_wp2_with fail
  clear hb
  have hw4 : ∃ w4, w4 = w3.alloc (.cells turnsA 96) ∧ BytAt w4 w.heap.size b' ∧ ArrAt w4 (w.heap.size + 1) k5 ∧ TurnAt w4 (w.heap.size + 2) ∧ StAt w4 sb s.list ∧ Q w w4 := by
    refine ⟨_, rfl, hB.alloc _, hK2.alloc _, ?_, (hs.q4 hq).q4 ((Q.refl _).alloc _), hq.alloc _⟩
    have := heap_alloc_new w3 (.cells turnsA 96)
    rw [hsz] at this
    exact this
  obtain ⟨w4, hw4, hB4, hK4, hT4, hS4, hq4⟩ := hw4
  refine Eq.mp (congrArg _ hw4) ?_
  clear hw4 hq hK2 hB hsz hs
  have v0 := (hS4 0 (by decide : 0 < 4)).1
  have v1 := (hS4 1 (by decide : 1 < 4)).1
  have v2 := (hS4 2 (by decide : 2 < 4)).1
  have v3 := (hS4 3 (by decide : 3 < 4)).1
  have HB := Lib.hid hB4
  have HK := Lib.hid hK4
  have HT := Lib.hid hT4
  have HS := Lib.hid hS4
  have HQ := Lib.hid hq4
  clear hB4 hK4 hT4 hS4 hq4
  have y0 := fun m : QW w4 => m.cell v0
  have y1 := fun m : QW w4 => m.cell v1
  have y2 := fun m : QW w4 => m.cell v2
  have y3 := fun m : QW w4 => m.cell v3
  clear v0 v1 v2 v3
  refine wp_region_q (by kernel_rfl) (by kernel_rfl) ?_
  (repeat (go_big_quiet_step (fail)))
  refine wpQuiet_nil ?_
  rintro w6 ⟨m6, hm6⟩
  have hq6 : Q w4 w6 := by rw [hm6]; exact m6.le
  clear hm6 m6 y0 y1 y2 y3
  have hQ6 := HQ.out.trans hq6
  have hK6 := HK.out.q hq6
  have hB6 := HB.out.q hq6
  have hT6 := HT.out.q hq6
  have hS6 := HS.out.q4 hq6
  clear HQ HK HB HS HT hq6
  have HQ := Lib.hid hQ6
  have HK := Lib.hid hK6
  have HB := Lib.hid hB6
  have HT := Lib.hid hT6
  have HS := Lib.hid hS6
  clear hQ6 hK6 hB6 hS6 hT6
  go_wp2_with fail
  go_loopw [6, 7, 8, 9, 35] (fun a b c d i wz => ∃ k : Nat, k ≤ 64 ∧ i = .int .i64 k ∧ a = .int .u32 ((rounds5 b' s k).a.toNat : Int) ∧ b = .int .u32 ((rounds5 b' s k).b.toNat : Int) ∧ c = .int .u32 ((rounds5 b' s k).c.toNat : Int) ∧ d = .int .u32 ((rounds5 b' s k).d.toNat : Int) ∧ Q w6 wz) (fun _ _ _ _ i _ => 64 - (intOf i).toNat)
  case atStart => exact ⟨0, by omega, rfl, rfl, rfl, rfl, rfl, Q.refl _⟩
  case round =>
    obtain ⟨k, hk, rfl, rfl, rfl, rfl, rfl, hqz⟩ := hrel
    by_cases hlt : k < 64
    · have h64 : decide ((k : Int) < 64) = true := by simp; omega
      have hRs : rounds5 b' s (k + 1) = round5 b' (rounds5 b' s k) k := rfl
      generalize rounds5 b' s k = R at *
      have HRS := Lib.hid hRs
      have HQZ := Lib.hid hqz
      clear hRs hqz
      go_upto_block 2 with (fail)
      go_cut [11, 12] (fun f at_ wx => f = .int .u32 ((f5 k R.b R.c R.d).toNat : Int) ∧ at_ = .int .i64 (at5 k : Nat) ∧ wr = wx)
      case first =>
        by_cases q0 : k / 16 = 0
        · have hF : f5 k R.b R.c R.d = xo R.d (an R.b (xo R.c R.d)) := by unfold f5; rw [if_pos q0]
          have hA : at5 k = k := by unfold at5; rw [if_pos q0]
          have t0 : ((k : Int) / 16 == 0) = true := by simp; omega
          have x1 : bits .xor .u32 (R.c.toNat : Int) (R.d.toNat : Int) = ((xo R.c R.d).toNat : Int) := xor32 _ _
          have x2 : bits .and .u32 (R.b.toNat : Int) ((xo R.c R.d).toNat : Int) = ((an R.b (xo R.c R.d)).toNat : Int) := and32 _ _
          have x3 : bits .xor .u32 (R.d.toNat : Int) ((an R.b (xo R.c R.d)).toNat : Int) = ((xo R.d (an R.b (xo R.c R.d))).toNat : Int) := xor32 _ _
          have HF := Lib.hid hF
          have HA := Lib.hid hA
          clear hF hA q0
          go_wp2_with fail
          go_meet
          case rel => exact ⟨by rw [HF.out], by rw [HA.out], rfl⟩
        · by_cases q1 : k / 16 = 1
          · have hF : f5 k R.b R.c R.d = xo R.c (an R.d (xo R.b R.c)) := by unfold f5; rw [if_neg q0, if_pos q1]
            have hA : at5 k = 5 * k + 1 := by unfold at5; rw [if_neg q0, if_pos q1]
            have t0 : ((k : Int) / 16 == 0) = false := by simp; omega
            have t1 : ((k : Int) / 16 == 1) = true := by simp; omega
            have x1 : bits .xor .u32 (R.b.toNat : Int) (R.c.toNat : Int) = ((xo R.b R.c).toNat : Int) := xor32 _ _
            have x2 : bits .and .u32 (R.d.toNat : Int) ((xo R.b R.c).toNat : Int) = ((an R.d (xo R.b R.c)).toNat : Int) := and32 _ _
            have x3 : bits .xor .u32 (R.c.toNat : Int) ((an R.d (xo R.b R.c)).toNat : Int) = ((xo R.c (an R.d (xo R.b R.c))).toNat : Int) := xor32 _ _
            have HF := Lib.hid hF
            have HA := Lib.hid hA
            clear hF hA q0 q1
            go_wp2_with fail
            go_meet
            case rel => exact ⟨by rw [HF.out], by rw [HA.out]; go_num, rfl⟩
          · by_cases q2 : k / 16 = 2
            · have hF : f5 k R.b R.c R.d = xo (xo R.b R.c) R.d := by unfold f5; rw [if_neg q0, if_neg q1, if_pos q2]
              have hA : at5 k = 3 * k + 5 := by unfold at5; rw [if_neg q0, if_neg q1, if_pos q2]
              have t0 : ((k : Int) / 16 == 0) = false := by simp; omega
              have t1 : ((k : Int) / 16 == 1) = false := by simp; omega
              have t2 : ((k : Int) / 16 == 2) = true := by simp; omega
              have x1 : bits .xor .u32 (R.b.toNat : Int) (R.c.toNat : Int) = ((xo R.b R.c).toNat : Int) := xor32 _ _
              have x2 : bits .xor .u32 ((xo R.b R.c).toNat : Int) (R.d.toNat : Int) = ((xo (xo R.b R.c) R.d).toNat : Int) := xor32 _ _
              have HF := Lib.hid hF
              have HA := Lib.hid hA
              clear hF hA q0 q1 q2
              go_wp2_with fail
              go_meet
              case rel => exact ⟨by rw [HF.out], by rw [HA.out]; go_num, rfl⟩
            · have hF : f5 k R.b R.c R.d = xo R.c (oo R.b (no R.d)) := by unfold f5; rw [if_neg q0, if_neg q1, if_neg q2]
              have hA : at5 k = 7 * k := by unfold at5; rw [if_neg q0, if_neg q1, if_neg q2]
              have t0 : ((k : Int) / 16 == 0) = false := by simp; omega
              have t1 : ((k : Int) / 16 == 1) = false := by simp; omega
              have t2 : ((k : Int) / 16 == 2) = false := by simp; omega
              have t3 : ((k : Int) / 16 == 3) = true := by simp; omega
              have n1 : bits .xor .u32 IntKind.u32.max (R.d.toNat : Int) = ((no R.d).toNat : Int) := not32m _
              have n2 : bits .xor .u32 4294967295 (R.d.toNat : Int) = ((no R.d).toNat : Int) := not32 _
              have n3 : bits .xor .u32 (if IntKind.u32.signed = true then -1 else IntKind.u32.max) (R.d.toNat : Int) = ((no R.d).toNat : Int) := not32m _
              have x1 : bits .or .u32 (R.b.toNat : Int) ((no R.d).toNat : Int) = ((oo R.b (no R.d)).toNat : Int) := or32 _ _
              have x2 : bits .xor .u32 (R.c.toNat : Int) ((oo R.b (no R.d)).toNat : Int) = ((xo R.c (oo R.b (no R.d))).toNat : Int) := xor32 _ _
              have HF := Lib.hid hF
              have HA := Lib.hid hA
              clear hF hA q0 q1 q2
              go_wp2_with fail
              go_meet
              case rel => exact ⟨by rw [HF.out], by rw [HA.out]; go_num, rfl⟩
      case rest =>
        obtain ⟨rfl, rfl, rfl⟩ := hcut
        have hW5 : word5 b' k = be (gB b' (4 * (at5 k % 16) + 3)) (gB b' (4 * (at5 k % 16) + 2)) (gB b' (4 * (at5 k % 16) + 1)) (gB b' (4 * (at5 k % 16))) := rfl
        have hB5 := HB.out.q HQZ.out
        have hK5 := (HK.out.q HQZ.out).cell k hlt
        have hT5 := (HT.out.q HQZ.out).cell k hlt
        have hr5 : ((at5 k : Nat) : Int) ≤ 1000 := by unfold at5; split <;> (try split) <;> (try split) <;> omega
        generalize at5 k = A at *
        have hA16 : A % 16 < 16 := by omega
        have hc0 := hB5.cell (4 * (A % 16)) (by omega)
        have hc1 := hB5.cell (4 * (A % 16) + 1) (by omega)
        have hc2 := hB5.cell (4 * (A % 16) + 2) (by omega)
        have hc3 := hB5.cell (4 * (A % 16) + 3) (by omega)
        have hsl := slice64 wr w.heap.size 0 (4 * (A % 16)) (4 * ((A : Int) % 16)) (by omega) (by omega)
        rw [Nat.zero_add] at hsl
        have HB5 := Lib.hid hB5
        have HW5 := Lib.hid hW5
        clear hB5 hW5 hA16
        go_wp2_with fail
        have y0 := fun m : QW wr => m.cell hc0
        have y1 := fun m : QW wr => m.cell hc1
        have y2 := fun m : QW wr => m.cell hc2
        have y3 := fun m : QW wr => m.cell hc3
        clear hc0 hc1 hc2 hc3 hsl
        refine wp_region_q (by kernel_rfl) (by kernel_rfl) ?_
        (repeat (go_big_quiet_step (fail)))
        refine wpQuiet_nil ?_
        rintro wx ⟨mx, hmx⟩
        have hqx : Q wr wx := by rw [hmx]; exact mx.le
        clear hmx mx y0 y1 y2 y3
        rw [be_bits, ← HW5.out]
        go_wp2_with fail
        generalize hWW : word5 b' k = WW at *
        generalize hFF : f5 k R.b R.c R.d = FF at *
        generalize hKK : gW k5 k = KK at *
        have hNR := round5_eq b' R k FF KK WW hFF hKK hWW
        have z1 := hqx.cell hK5
        have z2 := hqx.cell hT5
        have z3 := z2
        rw [Nat.mul_comm] at z3
        have y1 := fun m : QW wx => m.cell z1
        have y2 := fun m : QW wx => m.cell z2
        have y3 := fun m : QW wx => m.cell z3
        clear z3
        clear z1 z2 hK5 hT5 hWW hFF hKK HW5
        have HN := Lib.hid hNR
        clear hNR
        have e1 : ((R.a.toNat : Int) + (FF.toNat : Int)) % 4294967296 = ((ad R.a FF).toNat : Int) := (ad_val _ _).symm
        have e2 : (((ad R.a FF).toNat : Int) + (KK.toNat : Int)) % 4294967296 = ((ad (ad R.a FF) KK).toNat : Int) := (ad_val _ _).symm
        have e3 : (((ad (ad R.a FF) KK).toNat : Int) + (WW.toNat : Int)) % 4294967296 = ((ad (ad (ad R.a FF) KK) WW).toNat : Int) := (ad_val _ _).symm
        have e4 : ((R.b.toNat : Int) + ((rl (rot5 k) (ad (ad (ad R.a FF) KK) WW)).toNat : Int)) % 4294967296 = ((ad R.b (rl (rot5 k) (ad (ad (ad R.a FF) KK) WW))).toNat : Int) := (ad_val _ _).symm
        refine wp_region_q (by kernel_rfl) (by kernel_rfl) ?_
        (repeat (go_big_quiet_step ((go_at_call 61; exact calls_qs (rotK _ k _ hlt)))))
        refine wpQuiet_nil ?_
        rintro wy ⟨my, hmy⟩
        have hqy : Q wx wy := by rw [hmy]; exact my.le
        clear hmy my y1 y2 y3 e1 e2 e3 e4 h64
        go_wp2_with fail
        go_roundw
        case rel =>
          refine ⟨k + 1, by omega, by go_num, ?_, ?_, ?_, ?_, (HQZ.out.trans hqx).trans hqy⟩
          · rw [HRS.out, HN.out]
          · rw [HRS.out, HN.out]; exact congrArg (Value.int .u32) (ad_val _ _).symm
          · rw [HRS.out, HN.out]
          · rw [HRS.out, HN.out]
        case measure => simp [intOf]; omega
    · obtain rfl : k = 64 := by omega
      rw [show ((64 : Nat) : Int) = 64 from rfl]
      have hR : mix5L s b' = add4 s (rounds5 b' s 64) := rfl
      generalize rounds5 b' s 64 = R at *
      have HR := Lib.hid hR
      have hG := (HQ.out.trans hqz).gb (some sb)
      have hSZ := HS.out.q4 hqz
      have HG := Lib.hid hG
      have HSZ := Lib.hid hSZ
      clear hR hqz hlt hk HQ HS HK HB HT hG hSZ
      go_wp2_with fail
      go_loopw [136] (fun i wz => ∃ k : Nat, k ≤ 4 ∧ i = .int .i64 k ∧ StAt wz sb (addP s.list R.list k) ∧ w.grownBy wz (some sb)) (fun i _ => 4 - (intOf i).toNat)
      case atStart => exact ⟨0, by omega, rfl, HSZ.out, HG.out⟩
      case round =>
        obtain ⟨k, hk, rfl, hS, hg⟩ := hrel
        by_cases hlt : k < 4
        · have h4 : decide ((k : Int) < 4) = true := by simp; omega
          have hi := index4 R k hlt
          have hc := (hS k (by rw [addP_length]; exact hlt)).1
          have hf := (hS k (by rw [addP_length]; exact hlt)).2
          rw [addP_old _ _ _ _ (Nat.le_refl k)] at hc
          have HS := Lib.hid hS
          have HG := Lib.hid hg
          clear hS hg
          go_wp2_with fail
          go_roundw
          case rel =>
            refine ⟨k + 1, by omega, by go_num, ?_, gb_set HG.out _ _⟩
            have e1 := StAt.set HS.out k (ad (gW s.list k) (gW R.list k)) (by rw [addP_length]; exact hlt)
            rw [ad_val] at e1
            exact e1
          case measure => simp [intOf]; omega
        · obtain rfl : k = 4 := by omega
          have e4 : addP s.list R.list 4 = (add4 s R).list := rfl
          rw [e4, ← HR.out] at hS
          have HS := Lib.hid hS
          have HG := Lib.hid hg
          clear hS hg e4
          go_wp2_with fail
          go_end0
          exact ⟨rfl, HS.out, HG.out⟩
end Go.Proofs.YtbhgekhcpagkoaaDoor
/- The two sums: how they begin. -/
set_option linter.unusedVariables false
namespace Go.Proofs.YtbhgekhcpagkoaaDoor
open Go Go.RowKit
def of8 (l : List B32) : St8 := ⟨gW l 0, gW l 1, gW l 2, gW l 3, gW l 4, gW l 5, gW l 6, gW l 7⟩
def of4 (l : List B32) : St4 := ⟨gW l 0, gW l 1, gW l 2, gW l 3⟩
theorem of8_list (l : List B32) (h : l.length = 8) : (of8 l).list = l := by
  match l, h with
  | [a, b, c, d, e, f, g, i], _ => rfl
theorem of4_list (l : List B32) (h : l.length = 4) : (of4 l).list = l := by
  match l, h with
  | [a, b, c, d], _ => rfl
def alg256 : Alg where
  n := 8
  fn := 53
  hi := true
  start := start256.list
  mix := fun s b => (mix256L (of8 s) b).list
  n0 := by decide
  n8 := by decide
  len0 := rfl
  len := fun _ _ _ => rfl
  enters := fun args w => by kernel_rfl
  call := fun sb cap s b w hs hb hst => by
    have h := mix256_any sb cap (of8 s) b w hb (by rw [of8_list s hs]; exact hst)
    exact h
def alg5 : Alg where
  n := 4
  fn := 54
  hi := false
  start := start5.list
  mix := fun s b => (mix5L (of4 s) b).list
  n0 := by decide
  n8 := by decide
  len0 := rfl
  len := fun _ _ _ => rfl
  enters := fun args w => by kernel_rfl
  call := fun sb cap s b w hs hb hst => by
    have h := mix5_any sb cap (of4 s) b w hb (by rw [of4_list s hs]; exact hst)
    exact h
def sha (l : List UInt8) : List UInt8 := sumA alg256 l
def md (l : List UInt8) : List UInt8 := sumA alg5 l
theorem sha_abc : sha [97, 98, 99] = [0xba, 0x78, 0x16, 0xbf, 0x8f, 0x01, 0xcf, 0xea, 0x41, 0x41, 0x40, 0xde, 0x5d, 0xae, 0x22, 0x23, 0xb0, 0x03, 0x61, 0xa3, 0x96, 0x17, 0x7a, 0x9c, 0xb4, 0x10, 0xff, 0x61, 0xf2, 0x00, 0x15, 0xad] := by decide +kernel
theorem md_abc : md [97, 98, 99] = [0x90, 0x01, 0x50, 0x98, 0x3c, 0xd2, 0x4f, 0xb0, 0xd6, 0x96, 0x3f, 0x7d, 0x28, 0xe1, 0x7f, 0x72] := by decide +kernel
theorem st_row {w : World} {g : Nat} {l : List B32} {e : TypeId} (h : w.heap[g]? = some (.cells (arrM l) e (0, 0))) : StAt w g l := by
  intro i hi
  refine ⟨?_, frozen_of_row w g i _ _ h⟩
  rw [cell_of_row _ _ _ _ _ _ h]
  simp [arrM, u32V, gW, List.getD, hi]
def NewPost (A : Alg) (cap : Nat) (w : World) (e : Ending) (w' : World) : Prop :=
  ∃ hb sb, e = .returned (.pointer (some ⟨hb, 0, none⟩)) ∧ w.heap.size ≤ hb ∧ w.heap.size ≤ sb ∧ ToldAt w' A hb sb cap [] ∧ Q w w'
set_option maxRecDepth 100000 in
set_option maxHeartbeats 4000000 in
theorem new256_any (w : World) : Calls Tryd.prog 43 #[] w (NewPost alg256 8 w) := by
  go_enter Tryd.func43, Tryd.ntmps43
  go_wp2_with fail
  go_ret
  refine ⟨w.heap.size + 1, w.heap.size, rfl, by omega, by omega, ?_, ((Q.refl w).alloc _).alloc _⟩
  refine ⟨⟨List.replicate 64 0, ⟨?_, by simp⟩, rfl⟩, ?_, by omega⟩
  · rw [heap_alloc2_new]
    exact congrArg (fun x => some (Obj.cells x 89 (0, 0))) (by kernel_rfl)
  · exact st_row (l := start256.list) (heap_alloc2_old w (.cells (arrM start256.list) 78) _)
set_option maxRecDepth 100000 in
set_option maxHeartbeats 4000000 in
theorem new5_any (w : World) : Calls Tryd.prog 44 #[] w (NewPost alg5 4 w) := by
  go_enter Tryd.func44, Tryd.ntmps44
  go_wp2_with fail
  go_ret
  refine ⟨w.heap.size + 1, w.heap.size, rfl, by omega, by omega, ?_, ((Q.refl w).alloc _).alloc _⟩
  refine ⟨⟨List.replicate 64 0, ⟨?_, by simp⟩, rfl⟩, ?_, by omega⟩
  · rw [heap_alloc2_new]
    exact congrArg (fun x => some (Obj.cells x 89 (0, 0))) (by kernel_rfl)
  · exact st_row (l := start5.list) (heap_alloc2_old w (.cells (arrM start5.list) 78) _)

end Go.Proofs.YtbhgekhcpagkoaaDoor
/- DigestPieces: sums of a text that is told in pieces. -/
set_option linter.unusedVariables false
namespace Go.Proofs.YtbhgekhcpagkoaaDoor
open Go Go.RowKit
/-- Both sums of a text, in blocks of their own. -/
structure SumsAt (w : World) (g hl sl hs ss : Nat) (t : List UInt8) : Prop where
  row : w.heap[g]? = some (.cells #[.int .i64 (t.length : Nat), .pointer (some ⟨hl, 0, none⟩), .pointer (some ⟨hs, 0, none⟩)] 71 (0, 0))
  long : ToldAt w alg256 hl sl 8 t
  short : ToldAt w alg5 hs ss 4 t
  n1 : g ≠ hl ∧ g ≠ sl ∧ g ≠ hs ∧ g ≠ ss
  n2 : hl ≠ hs ∧ hl ≠ ss ∧ sl ≠ hs ∧ sl ≠ ss
theorem SumsAt.x {w w' : World} {g hl sl hs ss : Nat} {t : List UInt8} {S : List Nat} (h : SumsAt w g hl sl hs ss t) (hg : GX S w w') (h1 : g ∉ S ∧ hl ∉ S ∧ sl ∉ S ∧ hs ∉ S ∧ ss ∉ S) : SumsAt w' g hl sl hs ss t :=
  ⟨hg.heap h1.1 h.row, h.long.x hg h1.2.1 h1.2.2.1, h.short.x hg h1.2.2.2.1 h1.2.2.2.2, h.n1, h.n2⟩
theorem SumsAt.q {w w' : World} {g hl sl hs ss : Nat} {t : List UInt8} (h : SumsAt w g hl sl hs ss t) (hq : Q w w') : SumsAt w' g hl sl hs ss t := h.x (S := []) (GX.q hq) (by simp)
theorem SumsAt.c0 {w : World} {g hl sl hs ss : Nat} {t : List UInt8} (h : SumsAt w g hl sl hs ss t) : w.cell? ⟨g, 0, none⟩ = some (.int .i64 (t.length : Nat)) := by rw [cell_of_row _ _ _ _ _ _ h.row]; rfl
theorem SumsAt.c1 {w : World} {g hl sl hs ss : Nat} {t : List UInt8} (h : SumsAt w g hl sl hs ss t) : w.cell? ⟨g, 1, none⟩ = some (.pointer (some ⟨hl, 0, none⟩)) := by rw [cell_of_row _ _ _ _ _ _ h.row]; rfl
theorem SumsAt.c2 {w : World} {g hl sl hs ss : Nat} {t : List UInt8} (h : SumsAt w g hl sl hs ss t) : w.cell? ⟨g, 2, none⟩ = some (.pointer (some ⟨hs, 0, none⟩)) := by rw [cell_of_row _ _ _ _ _ _ h.row]; rfl
theorem SumsAt.f0 {w : World} {g hl sl hs ss : Nat} {t : List UInt8} (h : SumsAt w g hl sl hs ss t) : w.frozen? ⟨g, 0, none⟩ = false := frozen_of_row w g 0 _ _ h.row
def NewSPost (w : World) (e : Ending) (w' : World) : Prop :=
  ∃ g hl sl hs ss, e = .returned (.pointer (some ⟨g, 0, none⟩)) ∧ (w.heap.size ≤ g ∧ w.heap.size ≤ hl ∧ w.heap.size ≤ sl ∧ w.heap.size ≤ hs ∧ w.heap.size ≤ ss) ∧ SumsAt w' g hl sl hs ss [] ∧ Q w w'
theorem ToldAt.ltH {w : World} {A : Alg} {hb sb cap : Nat} {t : List UInt8} (h : ToldAt w A hb sb cap t) : hb < w.heap.size := ToldZ.ltH h
theorem ToldAt.ltS {w : World} {A : Alg} {hb sb cap : Nat} {t : List UInt8} (h : ToldAt w A hb sb cap t) : sb < w.heap.size := ToldZ.ltS h
set_option maxHeartbeats 1000000 in
theorem SNew_any (w : World) : Calls Tryd.prog 28 #[] w (NewSPost w) := by
  go_enter Tryd.func28, Tryd.ntmps28
  go_wp2_with fail
  with_reducible refine (new256_any _).mono ?_
  rintro e w1 ⟨hl, sl, rfl, h1, h2, hT, hq⟩
  have HT := Lib.hid hT
  have HQ := Lib.hid hq
  have l1 := ToldAt.ltH hT
  have l2 := ToldAt.ltS hT
  clear hT hq
  go_wp2_with fail
  with_reducible refine (new5_any _).mono ?_
  rintro e w2 ⟨hs, ss, rfl, h3, h4, hT5, hq5⟩
  have HT1 := Lib.hid (HT.out.x (S := []) (GX.q hq5) (by simp) (by simp))
  have HT5 := Lib.hid hT5
  have HQ5 := Lib.hid (HQ.out.trans hq5)
  have l3 := ToldAt.ltH hT5
  have l4 := ToldAt.ltS hT5
  have l5 := HQ.out.size
  have l6 := hq5.size
  clear hT5 hq5 HT HQ
  go_wp2_with fail
  go_ret
  refine ⟨w2.heap.size, hl, sl, hs, ss, rfl, ⟨by omega, h1, h2, by omega, by omega⟩, ⟨?_, ?_, ?_, by omega, by omega⟩, HQ5.out.alloc _⟩
  · rw [heap_alloc_new]; rfl
  · exact HT1.out.x (S := []) (GX.q ((Q.refl w2).alloc _)) (by simp) (by simp)
  · exact HT5.out.x (S := []) (GX.q ((Q.refl w2).alloc _)) (by simp) (by simp)
theorem SSum5_any (g hl sl hs ss : Nat) (t : List UInt8) (w : World) (h : SumsAt w g hl sl hs ss t) :
    Calls Tryd.prog 32 #[.pointer (some ⟨g, 0, none⟩)] w fun e w' => e = .returned (.string ⟨(md t).toArray⟩) ∧ Q w w' := by
  have c1 := h.c2
  have HT := Lib.hid h.short
  clear h
  go_enter Tryd.func32, Tryd.ntmps32
  go_wp2_with fail
  with_reducible refine (sum_any alg5 hs ss 4 _ _ HT.out).mono ?_
  rintro e w3 ⟨rfl, hq⟩
  go_wp2_with fail
  go_ret
  exact ⟨rfl, hq⟩
set_option maxHeartbeats 1000000 in
theorem SWrite_any (g hl sl hs ss : Nat) (t p : List UInt8) (w : World) (h : SumsAt w g hl sl hs ss t) (hp : t.length + p.length ≤ 9223372036854775807) :
    Calls Tryd.prog 30 #[.pointer (some ⟨g, 0, none⟩), .string ⟨p.toArray⟩] w fun e w' => e = .returned (.tuple #[]) ∧ SumsAt w' g hl sl hs ss (t ++ p) ∧ GX [g, hl, sl, hs, ss] w w' := by
  have c0 := h.c0
  have f0 := h.f0
  have c1 := h.c1
  have c2 := h.c2
  have H := Lib.hid h
  obtain ⟨m1, m2, m3, m4⟩ := h.n1
  obtain ⟨k1, k2, k3, k4⟩ := h.n2
  clear h
  have hg1 : GX [g] w (w.setCell ⟨g, 0, none⟩ (.int .i64 ((t.length : Int) + (p.length : Int)))) := (GX.refl _ w).set (by simp) _ _
  have hrow : (w.setCell ⟨g, 0, none⟩ (.int .i64 ((t.length : Int) + (p.length : Int)))).heap[g]? = some (.cells #[.int .i64 ((t.length : Int) + (p.length : Int)), .pointer (some ⟨hl, 0, none⟩), .pointer (some ⟨hs, 0, none⟩)] 71 (0, 0)) := by
    rw [heap_setCell_same w g 0 _ _ _ H.out.row]; rfl
  have HL := Lib.hid (H.out.long.x hg1 (by simp; omega) (by simp; omega))
  have HS := Lib.hid (H.out.short.x hg1 (by simp; omega) (by simp; omega))
  have HG := Lib.hid hg1
  have HR := Lib.hid hrow
  clear hg1 hrow
  go_enter Tryd.func30, Tryd.ntmps30
  go_wp2_with fail
  with_reducible refine (write_any alg256 hl sl 8 t p _ HL.out (by omega)).mono ?_
  rintro e w2 ⟨rfl, hT, hG2⟩
  have z2 : w2.cell? ⟨g, 2, none⟩ = some (.pointer (some ⟨hs, 0, none⟩)) := by
    rw [cell_of_row _ _ _ _ _ _ (hG2.heap (by simp; omega) HR.out)]; rfl
  have HR2 := Lib.hid (hG2.heap (k := g) (by simp; omega) HR.out)
  have HL2 := Lib.hid hT
  have HS2 := Lib.hid (HS.out.x hG2 (by simp; omega) (by simp; omega))
  have HG2 := Lib.hid ((HG.out.mono (S' := [g, hl, sl, hs, ss]) (by simp)).trans (hG2.mono (by simp)))
  clear hT hG2 c0 f0 c1 c2 HL HS HG HR
  go_wp2_with fail
  with_reducible refine (write_any alg5 hs ss 4 t p _ HS2.out (by omega)).mono ?_
  rintro e w3 ⟨rfl, hT, hG3⟩
  have hr3 := hG3.heap (k := g) (by simp; omega) HR2.out
  have hL3 := HL2.out.x hG3 (by simp; omega) (by simp; omega)
  have HF := Lib.hid (⟨by rw [List.length_append, Int.natCast_add]; exact hr3, hL3, hT, ⟨m1, m2, m3, m4⟩, ⟨k1, k2, k3, k4⟩⟩ : SumsAt w3 g hl sl hs ss (t ++ p))
  have HG3 := Lib.hid (HG2.out.trans (hG3.mono (by simp)))
  clear hr3 hL3 hT hG3
  go_wp2_with fail
  go_end0
  exact ⟨rfl, HF.out, HG3.out⟩
end Go.Proofs.YtbhgekhcpagkoaaDoor
/- The reference's turns; a text with a bit 1, bits 0 and its size. -/
set_option linter.unusedVariables false
namespace Go.Proofs.YtbhgekhcpagkoaaDoor
open Go Go.RowKit
theorem rr_bits (k : Nat) (x : B32) : bits .or .u32 ((x.toNat : Int) / 2 ^ k) (IntKind.u32.wrap ((x.toNat : Int) * 2 ^ (32 - k))) = (((x >>> k) ||| (x <<< (32 - k))).toNat : Int) := by
  rw [← or32]
  congr 1
  · rw [BitVec.toNat_ushiftRight, Nat.shiftRight_eq_div_pow, Int.natCast_ediv, Int.natCast_pow]; rfl
  · rw [IntKind.wrap_u32, BitVec.toNat_shiftLeft, Nat.shiftLeft_eq, Int.natCast_emod, Int.natCast_mul, Int.natCast_pow]; rfl
theorem ll_bits (k : Nat) (x : B32) : bits .or .u32 (IntKind.u32.wrap ((x.toNat : Int) * 2 ^ k)) ((x.toNat : Int) / 2 ^ (32 - k)) = ((rl k x).toNat : Int) := by
  unfold rl
  rw [← or32]
  congr 1
  · rw [IntKind.wrap_u32, BitVec.toNat_shiftLeft, Nat.shiftLeft_eq, Int.natCast_emod, Int.natCast_mul, Int.natCast_pow]; rfl
  · rw [BitVec.toNat_ushiftRight, Nat.shiftRight_eq_div_pow, Int.natCast_ediv, Int.natCast_pow]; rfl
theorem tr_or (k : Nat) (hk : k ≤ 32) (x : B32) : (x >>> k) ||| (x <<< (32 - k)) = tr (k : Int) x := by
  unfold tr rl
  rw [BitVec.or_comm, Int.toNat_natCast, show 32 - (32 - k) = k from by omega]
set_option maxHeartbeats 1000000 in
theorem left01_any (x : B32) (n : Nat) (w : World) (h0 : 0 < n) (h1 : n < 32) : Calls Tryd.prog 52 #[.int .u32 (x.toNat : Int), .int .i64 (n : Int)] w fun e w' => e = .returned (.int .u32 ((rl n x).toNat : Int)) ∧ Q w w' := by
  have hb := ll_bits n x
  have hb2 := hb
  rw [IntKind.wrap_u32] at hb2
  go_enter Tryd.func52, Tryd.ntmps52
  go_wp2_with fail
  refine wp_region_q (by kernel_rfl) (by kernel_rfl) ?_
  repeat (go_big_quiet_step (fail))
  refine wpQuiet_nil ?_
  rintro _ ⟨⟨w1, hq1⟩, rfl⟩
  go_wp2_with fail
  go_ret
  exact ⟨rfl, hq1⟩
theorem bytesL_lo (k : Nat) (hk : k < 8) {n : Nat} : gB (bytesL false n 8) k = byN n k := by
  unfold bytesL gB; simp [List.getD, hk]
theorem bytesL_hi (k : Nat) (hk : k < 8) {n : Nat} : gB (bytesL true n 8) k = byN n (7 - k) := by
  unfold bytesL gB; simp [List.getD, hk]
def lenS : Value → Nat
  | .slice _ n _ => n
  | _ => 0
/-- How many bits 0: as the reference counts them. -/
def fillN (n : Nat) : Nat := (119 - n % 64) % 64
set_option maxRecDepth 100000 in
set_option maxHeartbeats 4000000 in
theorem padded_any (l : List UInt8) (hi : Bool) (w : World) (hl : l.length ≤ 140737488355500) :
    Calls Tryd.prog 51 #[.string ⟨l.toArray⟩, .bool hi] w fun e w' => ∃ v, e = .returned v ∧ OwnB w w' v (padA hi l) ∧ Q w w' := by
  obtain ⟨v1, w1, hcv, hown1, hq1, cap1, hv1⟩ := bytes_of l w (by omega)
  rw [hv1] at hcv hown1
  have HO := Lib.hid hown1
  have HQ := Lib.hid hq1
  clear hown1 hq1 hv1
  go_enter Tryd.func51, Tryd.ntmps51
  go_upto_region 2 with (fail)
  clear hcv
  go_wp2_with (at_builtin; refine wpList_append_b rfl (.tmp 11) (.tmp 12) rfl w w1 _ l (by rfl) HO.out HQ.out [128] 1 rfl (by rfl) (by omega) ?_; intro v2 w2 hown2 hq2 _; have HO2 := Lib.hid hown2; have HQ2 := Lib.hid hq2; clear hown2 hq2)
  clear HO HQ
  go_loopw [5] (fun v wr => ∃ (k L : Nat) (A : Option Addr) (cap : Nat), k ≤ fillN l.length ∧ Hid (L = l.length + 1 + k) ∧ L ≤ 140737488355650 ∧ v = .slice A L cap ∧ OwnB w wr (.slice A L cap) (l ++ 128 :: List.replicate k 0) ∧ Q w wr) (fun v _ => l.length + 1 + fillN l.length - lenS v)
  case atStart =>
    obtain ⟨A, cap, hv, _⟩ := HO2.out.form
    have e : (l ++ [(128 : UInt8)]).length = l.length + 1 := by simp
    rw [e] at hv
    have h2 := HO2.out
    rw [hv] at h2
    exact ⟨0, l.length + 1, A, cap, by omega, Lib.hid rfl, by omega, hv, h2, HQ2.out⟩
  case round =>
    obtain ⟨k, L, A, cap, hk, hL, hL2, rfl, hown, hq⟩ := hrel
    have hLe := hL.out
    by_cases hlt : k < fillN l.length
    · have hb : ((L : Int) % 64 != 56) = true := by unfold fillN at hlt; rw [hLe]; simp; omega
      have hlen : (l ++ 128 :: List.replicate k (0 : UInt8)).length = L := by rw [hLe]; simp; omega
      have HK := Lib.hid hk
      have HLL := Lib.hid hlen
      have HOO := Lib.hid hown
      have HQQ := Lib.hid hq
      clear hLe hown hq hlen hk HO2 HQ2
      go_wp2_with (at_builtin; refine wpList_append_b rfl (.tmp 18) (.tmp 19) rfl w wr _ (l ++ 128 :: List.replicate k 0) (by rfl) HOO.out HQQ.out [0] 1 rfl (by rfl) (by rw [HLL.out]; omega) ?_; intro v2 w3 hown2 hq2 _; have HO2 := Lib.hid hown2; have HQ2 := Lib.hid hq2; clear hown2 hq2)
      go_roundw
      case rel =>
        obtain ⟨A', cap', hv, _⟩ := HO2.out.form
        have e : l ++ 128 :: List.replicate k (0 : UInt8) ++ [0] = l ++ 128 :: List.replicate (k + 1) 0 := by rw [List.replicate_succ']; simp
        have e2 : (l ++ 128 :: List.replicate k (0 : UInt8) ++ [0]).length = L + 1 := by rw [List.length_append, HLL.out]; rfl
        rw [e2] at hv
        have h2 := HO2.out
        rw [hv, e] at h2
        exact ⟨k + 1, L + 1, A', cap', by omega, Lib.hid (by rw [hL.out]; omega), by have := hL.out; unfold fillN at hlt; omega, hv, h2, HQ2.out⟩
      case measure =>
        obtain ⟨A', cap', hv, _⟩ := HO2.out.form
        have e2 : (l ++ 128 :: List.replicate k (0 : UInt8) ++ [0]).length = L + 1 := by rw [List.length_append, HLL.out]; rfl
        rw [e2] at hv
        rw [hv]
        have := hL.out
        show l.length + 1 + fillN l.length - (L + 1) < l.length + 1 + fillN l.length - L
        omega
    · have hkk : k = fillN l.length := by omega
      have hb : ((L : Int) % 64 != 56) = false := by unfold fillN at hkk; rw [hLe, hkk]; simp; omega
      have hw8 : IntKind.u64.wrap ((l.length : Int) * 8) = ((8 * l.length % 18446744073709551616 : Nat) : Int) := by rw [IntWalk_u64]; omega
      have hpad : padA hi l = l ++ 128 :: List.replicate k 0 ++ bytesL hi (8 * l.length % 18446744073709551616) 8 := by unfold padA; rw [hkk]; rfl
      have hl3 : (l ++ 128 :: List.replicate k (0 : UInt8)).length ≤ 140737488355650 := by rw [show (l ++ 128 :: List.replicate k (0 : UInt8)).length = L from by rw [hLe]; simp; omega]; omega
      generalize 8 * l.length % 18446744073709551616 = S8 at *
      generalize l ++ 128 :: List.replicate k (0 : UInt8) = B at *
      have HPAD := Lib.hid hpad
      have HL3 := Lib.hid hl3
      have HOO := Lib.hid hown
      have HQQ := Lib.hid hq
      clear hLe hown hq hkk hpad hL HO2 HQ2 hl3 hlt
      go_wp2_with fail
      clear hw8 hb hL2
      go_loopw [5, 7] (fun v i wz => ∃ k : Nat, k ≤ 8 ∧ i = .int .i64 k ∧ OwnB w wz v (B ++ (bytesL hi S8 8).take k) ∧ Q w wz) (fun _ i _ => 8 - (intOf i).toNat)
      case atStart => exact ⟨0, by omega, rfl, by simpa using HOO.out, HQQ.out⟩
      case round =>
        obtain ⟨k, hk, rfl, hown, hq⟩ := hrel
        by_cases hlt : k < 8
        · have hd : decide ((k : Int) < 8) = true := by simp; omega
          have hsn : (bytesL hi S8 8).take (k + 1) = (bytesL hi S8 8).take k ++ [gB (bytesL hi S8 8) k] := by
            rw [List.take_succ_eq_append_getElem (by rw [bytesL_length]; exact hlt)]
            simp [gB, List.getD, bytesL_length, hlt]
          have hlk : (B ++ (bytesL hi S8 8).take k).length + 1 ≤ 140737488355660 := by rw [List.length_append, List.length_take, bytesL_length]; have := HL3.out; omega
          have HSN := Lib.hid hsn
          have HLK := Lib.hid hlk
          have HOZ := Lib.hid hown
          have HQZ := Lib.hid hq
          clear hsn hlk hown hq HOO HQQ
          cases hi
          · have hx : (S8 : Int) / 2 ^ (8 * k) % 256 = ((gB (bytesL false S8 8) k).toNat : Int) := by rw [shr8, bytesL_lo k hlt]
            go_wp2_with (at_builtin; refine wpList_append_b rfl (.tmp 35) (.tmp 40) rfl w wr _ (B ++ (bytesL false S8 8).take k) (by rfl) HOZ.out HQZ.out [gB (bytesL false S8 8) k] 1 rfl (by rfl) (by have := HLK.out; omega) ?_; intro v2 w3 hown2 hq2 _; have HO2 := Lib.hid hown2; have HQ2 := Lib.hid hq2; clear hown2 hq2)
            go_roundw
            case rel => exact ⟨k + 1, by omega, by go_num, by rw [HSN.out, ← List.append_assoc]; exact HO2.out, HQ2.out⟩
            case measure => simp [intOf]; omega
          · have hx : (S8 : Int) / 2 ^ (56 - 8 * k) % 256 = ((gB (bytesL true S8 8) k).toNat : Int) := by rw [show 56 - 8 * k = 8 * (7 - k) from by omega, shr8, bytesL_hi k hlt]
            go_wp2_with (at_builtin; refine wpList_append_b rfl (.tmp 35) (.tmp 40) rfl w wr _ (B ++ (bytesL true S8 8).take k) (by rfl) HOZ.out HQZ.out [gB (bytesL true S8 8) k] 1 rfl (by rfl) (by have := HLK.out; omega) ?_; intro v2 w3 hown2 hq2 _; have HO2 := Lib.hid hown2; have HQ2 := Lib.hid hq2; clear hown2 hq2)
            go_roundw
            case rel => exact ⟨k + 1, by omega, by go_num, by rw [HSN.out, ← List.append_assoc]; exact HO2.out, HQ2.out⟩
            case measure => simp [intOf]; omega
        · obtain rfl : k = 8 := by omega
          rw [List.take_of_length_le (by rw [bytesL_length]; exact Nat.le_refl _), ← HPAD.out] at hown
          have HOZ := Lib.hid hown
          have HQZ := Lib.hid hq
          clear hown hq
          go_wp2_with fail
          go_ret
          exact ⟨_, rfl, HOZ.out, HQZ.out⟩
end Go.Proofs.YtbhgekhcpagkoaaDoor
/- Small laws of the reference's sums (a choice of XRfB and XRfC, for a seat without SHA-256 in the reference). -/
set_option linter.unusedVariables false
namespace Go.Proofs.YtbhgekhcpagkoaaDoor
open Go Go.RowKit
theorem ArrAt.x {w w' : World} {g : Nat} {l : List B32} {S : List Nat} (h : ArrAt w g l) (hg : GX S w w') (hS : g ∉ S) : ArrAt w' g l := ⟨hg.heap hS h.1, h.2⟩
theorem arrM_size (l : List B32) : (arrM l).size = l.length := by simp [arrM]
theorem gB_sub (l : List UInt8) (i j k : Nat) (h : i + k < j) : gB (sub l i j) k = gB l (i + k) := by
  unfold gB sub
  simp only [List.getD, List.getElem?_drop]
  rw [List.getElem?_take, if_pos h]
theorem padA_length (hi : Bool) (l : List UInt8) : (padA hi l).length = l.length + 1 + fillN l.length + 8 := by unfold padA fillN; simp [bytesL_length]; omega
theorem padA_mod (hi : Bool) (l : List UInt8) : (padA hi l).length % 64 = 0 := by rw [padA_length]; unfold fillN; omega
theorem xor_ones (x : B32) : bits .xor .u32 (x.toNat : Int) 4294967295 = ((no x).toNat : Int) := by
  have e : (4294967295 : Int) = ((BitVec.allOnes 32).toNat : Int) := by decide
  rw [e, xor32, BitVec.xor_allOnes]; rfl
theorem row_new (w : World) (cs ds : Array Value) (t : TypeId) : ((w.alloc (.cells cs t)).setRow w.heap.size ds).heap[w.heap.size]? = some (.cells ds t (0, 0)) := by
  simp only [World.setRow, Array.getElem?_modify, if_true]
  rw [heap_alloc_new]
  rfl
theorem build_at {P : Program} {ops : Array Oper} {rest : List Oper} {o : Oper} {a : Act} {w : World} {R : Exit → Act → World → Prop} (hg : o.guard = none) (t : TypeId) (parts : Array (Nat × Operand)) (ho : o.op = .build t parts)
    (cps : List (Nat × Value)) (he : (parts.map fun (i, x) => (i, a.eval x)).toList = cps) (cs : Array Value) (hf : P.built t cps = some cs) (h : wpList P ops R rest (a.put o.dst (.agg cs)) w) : wpList P ops R (o :: rest) a w :=
  wpList_build hg t parts ho (by rw [he, hf]; rfl) (by rw [he, hf]; exact h)
end Go.Proofs.YtbhgekhcpagkoaaDoor
