/- MD5: one block. -/
import Derived.Test.YteadblkkbbhpjaaShG
import Derived.Test.YteadblkkbbhpjaaMd
import Derived.Deep.DeepCutAuto
import Derived.Deep.CutBlock
set_option linter.unusedVariables false
namespace Go.Proofs.Yteadblkkbbhpjaa
open Go Go.RowKit
def St4.list (s : St4) : List B32 := [s.a, s.b, s.c, s.d]
theorem k5_built : Try.prog.built 83 (partsOf k5) = some (arrM k5) := by kernel_rfl
/-- The worlds behind the first steps. -/
theorem mix_start5 (w : World) (b : List UInt8) (hb : b.length = 64) (cs : Array Value) :
    ∃ w3, w3 = ((w.alloc (.cells (arrB b) 77)).alloc (.cells cs 83)).setRow (w.heap.size + 1) (arrM k5) ∧ w3.heap.size = w.heap.size + 2 ∧ BytAt w3 w.heap.size b ∧ ArrAt w3 (w.heap.size + 1) k5 ∧ Q w w3 := by
  refine ⟨_, rfl, by simp, ⟨?_, hb⟩, ⟨?_, rfl⟩, Q.setRow (((Q.refl w).alloc _).alloc _) (by omega) _⟩
  · simp only [World.setRow, Array.getElem?_modify]
    rw [if_neg (by omega)]
    exact heap_alloc2_old _ _ _
  · simp only [World.setRow, Array.getElem?_modify, if_true]
    rw [heap_alloc2_new]
    rfl
theorem StAt.lt4 {w : World} {B : Nat} {s : St4} (h : StAt w B s.list) : B < w.heap.size := lt_of_cell (h 0 (by simp [St4.list])).1
theorem StAt.q4 {w w' : World} {B : Nat} {s : St4} (h : StAt w B s.list) (hq : Q w w') : StAt w' B s.list :=
  fun i hi => ⟨hq.cell (h i hi).1, (frozen_q hq h.lt4).trans (h i hi).2⟩
/-- By how many bits each round turns, in a block of its own. -/
def turnsA : Array Value := #[.int .i64 7, .int .i64 12, .int .i64 17, .int .i64 22, .int .i64 5, .int .i64 9, .int .i64 14, .int .i64 20, .int .i64 4, .int .i64 11, .int .i64 16, .int .i64 23, .int .i64 6, .int .i64 10, .int .i64 15, .int .i64 21]
def TurnAt (w : World) (g : Nat) : Prop := w.heap[g]? = some (.cells turnsA 126 (0, 0))
theorem TurnAt.q {w w' : World} {g : Nat} (h : TurnAt w g) (hq : Q w w') : TurnAt w' g := hq.block h
theorem TurnAt.lt {w : World} {g : Nat} (h : TurnAt w g) : g < w.heap.size := lt_of_heap h
theorem turns_at : ∀ i : Nat, i < 64 → turnsA[4 * (i / 16) + i % 4]? = some (.int .i64 (rot5 i : Nat)) := by
  intro i hi
  have h1 : 4 * (i / 16) + i % 4 < 16 := by omega
  unfold rot5
  generalize 4 * (i / 16) + i % 4 = j at h1
  obtain rfl | rfl | rfl | rfl | rfl | rfl | rfl | rfl | rfl | rfl | rfl | rfl | rfl | rfl | rfl | rfl : j = 0 ∨ j = 1 ∨ j = 2 ∨ j = 3 ∨ j = 4 ∨ j = 5 ∨ j = 6 ∨ j = 7 ∨ j = 8 ∨ j = 9 ∨ j = 10 ∨ j = 11 ∨ j = 12 ∨ j = 13 ∨ j = 14 ∨ j = 15 := by omega
  all_goals rfl
theorem TurnAt.cell {w : World} {g : Nat} (h : TurnAt w g) (i : Nat) (hi : i < 64) : w.cell? ⟨g, 4 * (i / 16) + i % 4, none⟩ = some (.int .i64 (rot5 i : Nat)) := by
  unfold World.cell?
  rw [h]
  exact turns_at i hi
theorem round5_eq (bl : List UInt8) (R : St4) (k : Nat) (FF KK WW : B32) (h1 : f5 k R.b R.c R.d = FF) (h2 : gW k5 k = KK) (h3 : word5 bl k = WW) :
    round5 bl R k = ⟨R.d, ad R.b (rl (rot5 k) (ad (ad (ad R.a FF) KK) WW)), R.b, R.c⟩ := by
  unfold round5; rw [h1, h2, h3]
theorem rot_lt : ∀ i : Nat, i < 64 → rot5 i < 32 := by decide +kernel
theorem and31r : ∀ k : Nat, k < 32 → bits .and .u64 (IntKind.u64.wrap (k : Int)) 31 = (k : Int) := by decide +kernel
theorem rotK (x : B32) (i : Nat) (w : World) (h : i < 64) : Calls Try.prog 81 #[.int .u32 (x.toNat : Int), .int .i64 (rot5 i : Nat)] w fun e w' => e = .returned (.int .u32 ((rl (rot5 i) x).toNat : Int)) ∧ w = w' :=
  RotateLeft32_any x _ (rot5 i) w (rot_lt i h) (and31r _ (rot_lt i h))
theorem index4 (R : St4) (k : Nat) (h : k < 4) (w : World) : (Instr.index 89 (.agg #[.int .u32 (R.a.toNat : Int), .int .u32 (R.b.toNat : Int), .int .u32 (R.c.toNat : Int), .int .u32 (R.d.toNat : Int)]) (.int .i64 (k : Int))).run Try.prog w = .ok (.int .u32 ((gW R.list k).toNat : Int)) w := by
  obtain rfl | rfl | rfl | rfl : k = 0 ∨ k = 1 ∨ k = 2 ∨ k = 3 := by omega
  all_goals kernel_rfl
set_option maxRecDepth 100000 in
set_option maxHeartbeats 20000000 in
theorem mix5_any (sb cap : Nat) (s : St4) (b' : List UInt8) (w : World) (hb : b'.length = 64) (hs : StAt w sb s.list) :
    Calls Try.prog 75 #[.slice (some ⟨sb, 0, none⟩) 4 cap, .agg (arrB b')] w fun e w' => e = .returned (.tuple #[]) ∧ StAt w' sb (mix5L s b').list ∧ w.grownBy w' (some sb) := by
  go_enter Try.func75, Try.ntmps75
  iterate 9 go_step
  refine wp_seq_k fun K hK => ?_
  refine wp_region_lit ?_
  refine build_const rfl 83 (partsOf k5) (arrM k5) (some _) rfl (by kernel_rfl) k5_built ?_
  iterate 3 go_step
  refine wpList_store_row rfl 83 _ _ rfl (w.heap.size + 1) (arrM k5) ?_ ?_ 83 _ (heap_alloc2_new _ _ _) (by rw [arr_size]; exact info64) rfl (arr_all _) ?_
  · rfl
  · rfl
  obtain ⟨w3, hw3, hsz, hB, hK2, hq⟩ := mix_start5 w b' hb _
  rw [← hw3]
  clear hw3
  go_wp2_with fail
  clear hb
  have hw4 : ∃ w4, w4 = w3.alloc (.cells turnsA 126) ∧ BytAt w4 w.heap.size b' ∧ ArrAt w4 (w.heap.size + 1) k5 ∧ TurnAt w4 (w.heap.size + 2) ∧ StAt w4 sb s.list ∧ Q w w4 := by
    refine ⟨_, rfl, hB.alloc _, hK2.alloc _, ?_, (hs.q4 hq).q4 ((Q.refl _).alloc _), hq.alloc _⟩
    have := heap_alloc_new w3 (.cells turnsA 126)
    rw [hsz] at this
    exact this
  obtain ⟨w4, hw4, hB4, hK4, hT4, hS4, hq4⟩ := hw4
  refine Eq.mp (congrArg _ hw4) ?_
  clear hw4 hq hK2 hB hsz hs
  have v0 := (hS4 0 (by decide : 0 < 4)).1
  have v1 := (hS4 1 (by decide : 1 < 4)).1
  have v2 := (hS4 2 (by decide : 2 < 4)).1
  have v3 := (hS4 3 (by decide : 3 < 4)).1
  have HB := Lib.hid hB4
  have HK := Lib.hid hK4
  have HT := Lib.hid hT4
  have HS := Lib.hid hS4
  have HQ := Lib.hid hq4
  clear hB4 hK4 hT4 hS4 hq4
  have y0 := fun m : QW w4 => m.cell v0
  have y1 := fun m : QW w4 => m.cell v1
  have y2 := fun m : QW w4 => m.cell v2
  have y3 := fun m : QW w4 => m.cell v3
  clear v0 v1 v2 v3
  refine wp_region_q (by kernel_rfl) (by kernel_rfl) ?_
  (repeat (go_big_quiet_step (fail)))
  refine wpQuiet_nil ?_
  rintro w6 ⟨m6, hm6⟩
  have hq6 : Q w4 w6 := by rw [hm6]; exact m6.le
  clear hm6 m6 y0 y1 y2 y3
  have hQ6 := HQ.out.trans hq6
  have hK6 := HK.out.q hq6
  have hB6 := HB.out.q hq6
  have hT6 := HT.out.q hq6
  have hS6 := HS.out.q4 hq6
  clear HQ HK HB HS HT hq6
  have HQ := Lib.hid hQ6
  have HK := Lib.hid hK6
  have HB := Lib.hid hB6
  have HT := Lib.hid hT6
  have HS := Lib.hid hS6
  clear hQ6 hK6 hB6 hS6 hT6
  go_wp2_with fail
  go_loopw [6, 7, 8, 9, 35] (fun a b c d i wz => ∃ k : Nat, k ≤ 64 ∧ i = .int .i64 k ∧ a = .int .u32 ((rounds5 b' s k).a.toNat : Int) ∧ b = .int .u32 ((rounds5 b' s k).b.toNat : Int) ∧ c = .int .u32 ((rounds5 b' s k).c.toNat : Int) ∧ d = .int .u32 ((rounds5 b' s k).d.toNat : Int) ∧ Q w6 wz) (fun _ _ _ _ i _ => 64 - (intOf i).toNat)
  case atStart => exact ⟨0, by omega, rfl, rfl, rfl, rfl, rfl, Q.refl _⟩
  case round =>
    obtain ⟨k, hk, rfl, rfl, rfl, rfl, rfl, hqz⟩ := hrel
    by_cases hlt : k < 64
    · have h64 : decide ((k : Int) < 64) = true := by simp; omega
      have hRs : rounds5 b' s (k + 1) = round5 b' (rounds5 b' s k) k := rfl
      generalize rounds5 b' s k = R at *
      have HRS := Lib.hid hRs
      have HQZ := Lib.hid hqz
      clear hRs hqz
      go_upto_block 2 with (fail)
      go_cut [11, 12] (fun f at_ wx => f = .int .u32 ((f5 k R.b R.c R.d).toNat : Int) ∧ at_ = .int .i64 (at5 k : Nat) ∧ wr = wx)
      case first =>
        by_cases q0 : k / 16 = 0
        · have hF : f5 k R.b R.c R.d = xo R.d (an R.b (xo R.c R.d)) := by unfold f5; rw [if_pos q0]
          have hA : at5 k = k := by unfold at5; rw [if_pos q0]
          have t0 : ((k : Int) / 16 == 0) = true := by simp; omega
          have x1 : bits .xor .u32 (R.c.toNat : Int) (R.d.toNat : Int) = ((xo R.c R.d).toNat : Int) := xor32 _ _
          have x2 : bits .and .u32 (R.b.toNat : Int) ((xo R.c R.d).toNat : Int) = ((an R.b (xo R.c R.d)).toNat : Int) := and32 _ _
          have x3 : bits .xor .u32 (R.d.toNat : Int) ((an R.b (xo R.c R.d)).toNat : Int) = ((xo R.d (an R.b (xo R.c R.d))).toNat : Int) := xor32 _ _
          have HF := Lib.hid hF
          have HA := Lib.hid hA
          clear hF hA q0
          go_wp2_with fail
          go_meet
          case rel => exact ⟨by rw [HF.out], by rw [HA.out], rfl⟩
        · by_cases q1 : k / 16 = 1
          · have hF : f5 k R.b R.c R.d = xo R.c (an R.d (xo R.b R.c)) := by unfold f5; rw [if_neg q0, if_pos q1]
            have hA : at5 k = 5 * k + 1 := by unfold at5; rw [if_neg q0, if_pos q1]
            have t0 : ((k : Int) / 16 == 0) = false := by simp; omega
            have t1 : ((k : Int) / 16 == 1) = true := by simp; omega
            have x1 : bits .xor .u32 (R.b.toNat : Int) (R.c.toNat : Int) = ((xo R.b R.c).toNat : Int) := xor32 _ _
            have x2 : bits .and .u32 (R.d.toNat : Int) ((xo R.b R.c).toNat : Int) = ((an R.d (xo R.b R.c)).toNat : Int) := and32 _ _
            have x3 : bits .xor .u32 (R.c.toNat : Int) ((an R.d (xo R.b R.c)).toNat : Int) = ((xo R.c (an R.d (xo R.b R.c))).toNat : Int) := xor32 _ _
            have HF := Lib.hid hF
            have HA := Lib.hid hA
            clear hF hA q0 q1
            go_wp2_with fail
            go_meet
            case rel => exact ⟨by rw [HF.out], by rw [HA.out]; go_num, rfl⟩
          · by_cases q2 : k / 16 = 2
            · have hF : f5 k R.b R.c R.d = xo (xo R.b R.c) R.d := by unfold f5; rw [if_neg q0, if_neg q1, if_pos q2]
              have hA : at5 k = 3 * k + 5 := by unfold at5; rw [if_neg q0, if_neg q1, if_pos q2]
              have t0 : ((k : Int) / 16 == 0) = false := by simp; omega
              have t1 : ((k : Int) / 16 == 1) = false := by simp; omega
              have t2 : ((k : Int) / 16 == 2) = true := by simp; omega
              have x1 : bits .xor .u32 (R.b.toNat : Int) (R.c.toNat : Int) = ((xo R.b R.c).toNat : Int) := xor32 _ _
              have x2 : bits .xor .u32 ((xo R.b R.c).toNat : Int) (R.d.toNat : Int) = ((xo (xo R.b R.c) R.d).toNat : Int) := xor32 _ _
              have HF := Lib.hid hF
              have HA := Lib.hid hA
              clear hF hA q0 q1 q2
              go_wp2_with fail
              go_meet
              case rel => exact ⟨by rw [HF.out], by rw [HA.out]; go_num, rfl⟩
            · have hF : f5 k R.b R.c R.d = xo R.c (oo R.b (no R.d)) := by unfold f5; rw [if_neg q0, if_neg q1, if_neg q2]
              have hA : at5 k = 7 * k := by unfold at5; rw [if_neg q0, if_neg q1, if_neg q2]
              have t0 : ((k : Int) / 16 == 0) = false := by simp; omega
              have t1 : ((k : Int) / 16 == 1) = false := by simp; omega
              have t2 : ((k : Int) / 16 == 2) = false := by simp; omega
              have t3 : ((k : Int) / 16 == 3) = true := by simp; omega
              have n1 : bits .xor .u32 IntKind.u32.max (R.d.toNat : Int) = ((no R.d).toNat : Int) := not32m _
              have n2 : bits .xor .u32 4294967295 (R.d.toNat : Int) = ((no R.d).toNat : Int) := not32 _
              have n3 : bits .xor .u32 (if IntKind.u32.signed = true then -1 else IntKind.u32.max) (R.d.toNat : Int) = ((no R.d).toNat : Int) := not32m _
              have x1 : bits .or .u32 (R.b.toNat : Int) ((no R.d).toNat : Int) = ((oo R.b (no R.d)).toNat : Int) := or32 _ _
              have x2 : bits .xor .u32 (R.c.toNat : Int) ((oo R.b (no R.d)).toNat : Int) = ((xo R.c (oo R.b (no R.d))).toNat : Int) := xor32 _ _
              have HF := Lib.hid hF
              have HA := Lib.hid hA
              clear hF hA q0 q1 q2
              go_wp2_with fail
              go_meet
              case rel => exact ⟨by rw [HF.out], by rw [HA.out]; go_num, rfl⟩
      case rest =>
        obtain ⟨rfl, rfl, rfl⟩ := hcut
        have hW5 : word5 b' k = be (gB b' (4 * (at5 k % 16) + 3)) (gB b' (4 * (at5 k % 16) + 2)) (gB b' (4 * (at5 k % 16) + 1)) (gB b' (4 * (at5 k % 16))) := rfl
        have hB5 := HB.out.q HQZ.out
        have hK5 := (HK.out.q HQZ.out).cell k hlt
        have hT5 := (HT.out.q HQZ.out).cell k hlt
        have hr5 : ((at5 k : Nat) : Int) ≤ 1000 := by unfold at5; split <;> (try split) <;> (try split) <;> omega
        generalize at5 k = A at *
        have hA16 : A % 16 < 16 := by omega
        have hc0 := hB5.cell (4 * (A % 16)) (by omega)
        have hc1 := hB5.cell (4 * (A % 16) + 1) (by omega)
        have hc2 := hB5.cell (4 * (A % 16) + 2) (by omega)
        have hc3 := hB5.cell (4 * (A % 16) + 3) (by omega)
        have hsl := slice64 wr w.heap.size 0 (4 * (A % 16)) (4 * ((A : Int) % 16)) (by omega) (by omega)
        rw [Nat.zero_add] at hsl
        have HB5 := Lib.hid hB5
        have HW5 := Lib.hid hW5
        clear hB5 hW5 hA16
        go_wp2_with fail
        have y0 := fun m : QW wr => m.cell hc0
        have y1 := fun m : QW wr => m.cell hc1
        have y2 := fun m : QW wr => m.cell hc2
        have y3 := fun m : QW wr => m.cell hc3
        clear hc0 hc1 hc2 hc3 hsl
        refine wp_region_q (by kernel_rfl) (by kernel_rfl) ?_
        (repeat (go_big_quiet_step (fail)))
        refine wpQuiet_nil ?_
        rintro wx ⟨mx, hmx⟩
        have hqx : Q wr wx := by rw [hmx]; exact mx.le
        clear hmx mx y0 y1 y2 y3
        rw [be_bits, ← HW5.out]
        go_wp2_with fail
        generalize hWW : word5 b' k = WW at *
        generalize hFF : f5 k R.b R.c R.d = FF at *
        generalize hKK : gW k5 k = KK at *
        have hNR := round5_eq b' R k FF KK WW hFF hKK hWW
        have z1 := hqx.cell hK5
        have z2 := hqx.cell hT5
        have z3 := z2
        rw [Nat.mul_comm] at z3
        have y1 := fun m : QW wx => m.cell z1
        have y2 := fun m : QW wx => m.cell z2
        have y3 := fun m : QW wx => m.cell z3
        clear z3
        clear z1 z2 hK5 hT5 hWW hFF hKK HW5
        have HN := Lib.hid hNR
        clear hNR
        have e1 : ((R.a.toNat : Int) + (FF.toNat : Int)) % 4294967296 = ((ad R.a FF).toNat : Int) := (ad_val _ _).symm
        have e2 : (((ad R.a FF).toNat : Int) + (KK.toNat : Int)) % 4294967296 = ((ad (ad R.a FF) KK).toNat : Int) := (ad_val _ _).symm
        have e3 : (((ad (ad R.a FF) KK).toNat : Int) + (WW.toNat : Int)) % 4294967296 = ((ad (ad (ad R.a FF) KK) WW).toNat : Int) := (ad_val _ _).symm
        have e4 : ((R.b.toNat : Int) + ((rl (rot5 k) (ad (ad (ad R.a FF) KK) WW)).toNat : Int)) % 4294967296 = ((ad R.b (rl (rot5 k) (ad (ad (ad R.a FF) KK) WW))).toNat : Int) := (ad_val _ _).symm
        refine wp_region_q (by kernel_rfl) (by kernel_rfl) ?_
        (repeat (go_big_quiet_step ((go_at_call 81; exact calls_qs (rotK _ k _ hlt)))))
        refine wpQuiet_nil ?_
        rintro wy ⟨my, hmy⟩
        have hqy : Q wx wy := by rw [hmy]; exact my.le
        clear hmy my y1 y2 y3 e1 e2 e3 e4 h64
        go_wp2_with fail
        go_roundw
        case rel =>
          refine ⟨k + 1, by omega, by go_num, ?_, ?_, ?_, ?_, (HQZ.out.trans hqx).trans hqy⟩
          · rw [HRS.out, HN.out]
          · rw [HRS.out, HN.out]; exact congrArg (Value.int .u32) (ad_val _ _).symm
          · rw [HRS.out, HN.out]
          · rw [HRS.out, HN.out]
        case measure => simp [intOf]; omega
    · obtain rfl : k = 64 := by omega
      rw [show ((64 : Nat) : Int) = 64 from rfl]
      have hR : mix5L s b' = add4 s (rounds5 b' s 64) := rfl
      generalize rounds5 b' s 64 = R at *
      have HR := Lib.hid hR
      have hG := (HQ.out.trans hqz).gb (some sb)
      have hSZ := HS.out.q4 hqz
      have HG := Lib.hid hG
      have HSZ := Lib.hid hSZ
      clear hR hqz hlt hk HQ HS HK HB HT hG hSZ
      go_wp2_with fail
      go_loopw [136] (fun i wz => ∃ k : Nat, k ≤ 4 ∧ i = .int .i64 k ∧ StAt wz sb (addP s.list R.list k) ∧ w.grownBy wz (some sb)) (fun i _ => 4 - (intOf i).toNat)
      case atStart => exact ⟨0, by omega, rfl, HSZ.out, HG.out⟩
      case round =>
        obtain ⟨k, hk, rfl, hS, hg⟩ := hrel
        by_cases hlt : k < 4
        · have h4 : decide ((k : Int) < 4) = true := by simp; omega
          have hi := index4 R k hlt
          have hc := (hS k (by rw [addP_length]; exact hlt)).1
          have hf := (hS k (by rw [addP_length]; exact hlt)).2
          rw [addP_old _ _ _ _ (Nat.le_refl k)] at hc
          have HS := Lib.hid hS
          have HG := Lib.hid hg
          clear hS hg
          go_wp2_with fail
          go_roundw
          case rel =>
            refine ⟨k + 1, by omega, by go_num, ?_, gb_set HG.out _ _⟩
            have e1 := StAt.set HS.out k (ad (gW s.list k) (gW R.list k)) (by rw [addP_length]; exact hlt)
            rw [ad_val] at e1
            exact e1
          case measure => simp [intOf]; omega
        · obtain rfl : k = 4 := by omega
          have e4 : addP s.list R.list 4 = (add4 s R).list := rfl
          rw [e4, ← HR.out] at hS
          have HS := Lib.hid hS
          have HG := Lib.hid hg
          clear hS hg e4
          go_wp2_with fail
          go_end0
          exact ⟨rfl, HS.out, HG.out⟩
end Go.Proofs.Yteadblkkbbhpjaa
