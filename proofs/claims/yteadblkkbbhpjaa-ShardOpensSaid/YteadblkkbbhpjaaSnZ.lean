/- ShardOpens, walked. -/
import Derived.Test.YteadblkkbbhpjaaSnY
import Derived.Test.YteadblkkbbhpjaaInts
import Derived.RegionTactic
import Derived.BigRegion
set_option linter.unusedVariables false
namespace Go.Proofs.Yteadblkkbbhpjaa
open Go Go.RowKit
theorem bitB_val : ∀ k, k < 8 → ((2 : Int) ^ k % 256 = ((byteOf ((2 : Int) ^ k)).toNat : Int)) := by decide +kernel
theorem OpenPost.same {nm s t : List UInt8} {w w' : World} {x a : Int} {e : Ending} (h : OpenPost nm s w e w') (ho : OpSays nm s t x a) : ∃ v, e = .returned (.tuple #[.string ⟨t.toArray⟩, v]) ∧ ErrIs w' v x a ∧ Q w w' := by
  obtain ⟨t', v, x', a', rfl, he, ho', hq⟩ := h
  obtain ⟨rfl, rfl, rfl⟩ := ho'.inj ho
  exact ⟨v, rfl, he, hq⟩
set_option maxRecDepth 100000 in
set_option maxHeartbeats 4000000 in
theorem ShardOpens_any (nm s l : List UInt8) (A : Option Addr) (N cap0 : Nat) (zs : List Int) (w : World) (hn : nm.length ≤ 140737488355328) (hs : s.length ≤ 140737488355328) (hl : l.length ≤ 140737488355328) (hz : IntsAt w A N zs) (hN : N ≤ 9223372036854775807) :
    Calls Try.prog 4 #[.string ⟨nm.toArray⟩, .string ⟨s.toArray⟩, .string ⟨l.toArray⟩, .slice A N cap0] w fun e w' => e = .returned (.bool true) ∧ Q w w' := by
  go_enter Try.func4, Try.ntmps4
  go_wp2_with fail
  refine (known_any _).mono ?_
  rintro e w1 ⟨rfl, hq1⟩
  have HQ := Lib.hid hq1
  clear hq1
  go_wp2_with fail
  refine (Open_any nm s _ hn hs).mono ?_
  rintro e w2 ⟨t, v, x, a, rfl, he2, ho2, hq2⟩
  have HQ := Lib.hid (HQ.out.trans hq2)
  clear hq2
  go_wp2_with fail
  refine (OpenR_any nm s _ hs hn).mono ?_
  rintro e w3 ⟨t3, x3, a3, rfl, ho3, hq3⟩
  obtain ⟨rfl, rfl, rfl⟩ := ho3.inj ho2
  have HQ := Lib.hid (HQ.out.trans hq3)
  have he3 := he2.q hq3
  clear hq3 he2 ho2 ho3
  go_wp2_with fail
  refine (is_any v _ _ _ he3).mono ?_
  rintro e w4 ⟨rfl, hq4⟩
  have HQ := Lib.hid (HQ.out.trans hq4)
  clear hq4 he3
  have g1 : (t3 == t3) = true := by simp
  go_wp2_with fail
  refine (SealR_any nm l _ hn hl).mono ?_
  rintro e w5 ⟨hs5, hq5⟩
  have HQ := Lib.hid (HQ.out.trans hq5)
  clear hq5
  rcases hs5 with ⟨h1, h2, rfl⟩ | ⟨h1, rfl⟩
  · have hS : (sealL nm l).length ≤ 20000 ∧ 36 ≤ (sealL nm l).length := by
      have := sealL_len nm l h2
      have h3 : sizeI l.length = 36 + l.length + 32 * ((l.length + 199) / 200) := by unfold sizeI; rw [if_neg (by omega)]
      omega
    generalize sealL nm l = S at *
    obtain ⟨vb, w6, hcv, ho6, hq6, cap, rfl⟩ := bytes_of S w5 (by omega)
    obtain ⟨g, hg⟩ : ∃ g, g = w5.heap.size := ⟨_, rfl⟩
    rw [← hg] at hcv ho6
    have hgw : w.heap.size ≤ g := by rw [hg]; exact HQ.out.size
    clear hg
    have hB := ho6.base (w0 := w) HQ.out.size
    have hq := HQ.out.trans hq6
    clear ho6 hq6
    go_wp2_with fail
    go_loopw [19] (fun i wr => ∃ (k : Nat) (cur : List UInt8), k ≤ 20 ∧ k ≤ N ∧ i = .int .i64 (k : Int) ∧ OwnB w wr (.slice (some ⟨g, 0, none⟩) S.length cap) cur ∧ cur.length = S.length ∧ Q w wr) (fun i _ => 20 - (intOf i).toNat)
    case atStart => exact ⟨0, S, by omega, by omega, rfl, hB, rfl, hq⟩
    case round =>
      obtain ⟨k, cur, hk, hkN, rfl, hB, hcl, hq⟩ := hrel
      have HB := Lib.hid hB
      have HQ := Lib.hid hq
      clear hB hq
      by_cases hlt : k < N
      · have g2 : decide ((k : Int) < (N : Int)) = true := by simp; omega
        by_cases hlt2 : k < 20
        · have g3 : decide ((k : Int) < 20) = true := by simp; omega
          obtain ⟨ad, rfl, z, hcz, hz0, hz1⟩ := (hz.q HQ.out).at hlt
          obtain ⟨c, hw⟩ : ∃ c : Nat, c ≤ 9223372036854775807 ∧ ((z < 0 ∧ wrap64 (-wrap64 (z + 1)) = (c : Int)) ∨ (0 ≤ z ∧ z = (c : Int))) := by
            by_cases hneg : z < 0
            · exact ⟨(-(z + 1)).toNat, by omega, .inl ⟨hneg, by unfold wrap64; omega⟩⟩
            · exact ⟨z.toNat, by omega, .inr ⟨by omega, by omega⟩⟩
          obtain ⟨hc9, hw⟩ := hw
          rcases hw with ⟨hneg, hw⟩ | ⟨hneg, rfl⟩
          · clear hz0 hz1
            have g4 : decide (z < 0) = true := by simpa using hneg
            clear hneg
            go_wp2_with fail
            rw [hw]
            clear hw g4
            obtain ⟨j, hj⟩ : ∃ j : Nat, ((c : Int) / 8 % (S.length : Int)) = (j : Int) := ⟨((c : Int) / 8 % (S.length : Int)).toNat, by have := Int.emod_nonneg ((c : Int) / 8) (show (S.length : Int) ≠ 0 by omega); omega⟩
            have hjl : j < S.length := by have := Int.emod_lt_of_pos ((c : Int) / 8) (show (0 : Int) < (S.length : Int) by omega); omega
            obtain ⟨m, hm⟩ : ∃ m : Nat, (c : Int) % 8 = (m : Int) := ⟨((c : Int) % 8).toNat, by omega⟩
            have hm8 : m < 8 := by omega
            obtain ⟨g', cap', hv, hgg, _, _, hcc⟩ := HB.out.pos (by omega)
            obtain ⟨rfl, rfl⟩ : g = g' ∧ cap = cap' := by rw [hcl] at hv; cases hv; exact ⟨rfl, rfl⟩
            have cj : ∀ m : QW wr, m.val.cell? ⟨g, j, none⟩ = some (.int .u8 ((gB cur j).toNat : Int)) := fun m => m.cell (hcc j (by omega)).1
            have fj := (hcc j (by omega)).2
            clear hcc hgg hv
            have hx : bits .xor .u8 ((gB cur j).toNat : Int) ((2 : Int) ^ m % 256) = ((xb (gB cur j) (byteOf ((2 : Int) ^ m))).toNat : Int) := by rw [bitB_val m hm8, xor8]
            refine wp_region_q_tail 13 (by kernel_rfl) (by kernel_rfl) ?_
            simp only [List.take_succ_cons, List.take_zero, List.drop_succ_cons, List.drop_zero]
            (repeat (go_big_quiet_step (fail)))
            refine wpQuiet_nil ?_
            rintro wx ⟨mx, hmx⟩
            have hqx : Q wr wx := by rw [hmx]; exact mx.le
            have hB := HB.out.q hqx
            have hq : Q w wx := HQ.out.trans hqx
            obtain ⟨g', cap', hv, hgg, _, _, hcc⟩ := hB.pos (by omega)
            obtain ⟨rfl, rfl⟩ : g = g' ∧ cap = cap' := by rw [hcl] at hv; cases hv; exact ⟨rfl, rfl⟩
            have cx := (hcc j (by omega)).1
            have fx := (hcc j (by omega)).2
            have HB := Lib.hid (hB.set j (xb (gB cur j) (byteOf ((2 : Int) ^ m))))
            have HQ := Lib.hid (hq.setNew (p := ⟨g, j, none⟩) hgw (.int .u8 ((xb (gB cur j) (byteOf ((2 : Int) ^ m))).toNat : Int)))
            clear hcc hgg hv hB hq cj fj hqx hmx mx hx hj hm
            generalize xb (gB cur j) (byteOf ((2 : Int) ^ m)) = X at *
            go_wp2_with fail
            go_roundw
            case rel => exact ⟨k + 1, cur.set j X, by omega, by omega, by go_num, HB.out, by rw [List.length_set, hcl], HQ.out⟩
            case measure => simp [intOf]; omega
          · have g4 : decide ((c : Int) < 0) = false := by simp
            clear hz0 hz1
            go_wp2_with fail
            clear g4
            obtain ⟨j, hj⟩ : ∃ j : Nat, ((c : Int) / 8 % (S.length : Int)) = (j : Int) := ⟨((c : Int) / 8 % (S.length : Int)).toNat, by have := Int.emod_nonneg ((c : Int) / 8) (show (S.length : Int) ≠ 0 by omega); omega⟩
            have hjl : j < S.length := by have := Int.emod_lt_of_pos ((c : Int) / 8) (show (0 : Int) < (S.length : Int) by omega); omega
            obtain ⟨m, hm⟩ : ∃ m : Nat, (c : Int) % 8 = (m : Int) := ⟨((c : Int) % 8).toNat, by omega⟩
            have hm8 : m < 8 := by omega
            obtain ⟨g', cap', hv, hgg, _, _, hcc⟩ := HB.out.pos (by omega)
            obtain ⟨rfl, rfl⟩ : g = g' ∧ cap = cap' := by rw [hcl] at hv; cases hv; exact ⟨rfl, rfl⟩
            have cj : ∀ m : QW wr, m.val.cell? ⟨g, j, none⟩ = some (.int .u8 ((gB cur j).toNat : Int)) := fun m => m.cell (hcc j (by omega)).1
            have fj := (hcc j (by omega)).2
            clear hcc hgg hv
            have hx : bits .xor .u8 ((gB cur j).toNat : Int) ((2 : Int) ^ m % 256) = ((xb (gB cur j) (byteOf ((2 : Int) ^ m))).toNat : Int) := by rw [bitB_val m hm8, xor8]
            refine wp_region_q_tail 13 (by kernel_rfl) (by kernel_rfl) ?_
            simp only [List.take_succ_cons, List.take_zero, List.drop_succ_cons, List.drop_zero]
            (repeat (go_big_quiet_step (fail)))
            refine wpQuiet_nil ?_
            rintro wx ⟨mx, hmx⟩
            have hqx : Q wr wx := by rw [hmx]; exact mx.le
            have hB := HB.out.q hqx
            have hq : Q w wx := HQ.out.trans hqx
            obtain ⟨g', cap', hv, hgg, _, _, hcc⟩ := hB.pos (by omega)
            obtain ⟨rfl, rfl⟩ : g = g' ∧ cap = cap' := by rw [hcl] at hv; cases hv; exact ⟨rfl, rfl⟩
            have cx := (hcc j (by omega)).1
            have fx := (hcc j (by omega)).2
            have HB := Lib.hid (hB.set j (xb (gB cur j) (byteOf ((2 : Int) ^ m))))
            have HQ := Lib.hid (hq.setNew (p := ⟨g, j, none⟩) hgw (.int .u8 ((xb (gB cur j) (byteOf ((2 : Int) ^ m))).toNat : Int)))
            clear hcc hgg hv hB hq cj fj hqx hmx mx hx hj hm
            generalize xb (gB cur j) (byteOf ((2 : Int) ^ m)) = X at *
            go_wp2_with fail
            go_roundw
            case rel => exact ⟨k + 1, cur.set j X, by omega, by omega, by go_num, HB.out, by rw [List.length_set, hcl], HQ.out⟩
            case measure => simp [intOf]; omega
        · have g3 : decide ((k : Int) < 20) = false := by simp; omega
          have hcl' : cur.length ≤ 140737488355328 := by omega
          have hcv2 : ∀ W, Q wr W → (convert 35 9 (.slice (some ⟨g, 0, none⟩) S.length cap)).run Try.prog W = .ok (.string ⟨cur.toArray⟩) W := fun W hW => conv_b (HB.out.q hW)
          have hc1 := hcv2 wr (Q.refl wr)
          go_wp2_with fail
          refine (Open_any nm cur _ hn hcl').mono ?_
          rintro e wa ⟨t, v2, x2, a2, rfl, he2, ho2, hqa⟩
          have hc2 := hcv2 wa hqa
          go_wp2_with fail
          refine (OpenR_any nm cur _ hcl' hn).mono ?_
          rintro e wb ⟨t5, x5, a5, rfl, ho5, hqb⟩
          obtain ⟨rfl, rfl, rfl⟩ := ho5.inj ho2
          have HQ := Lib.hid ((HQ.out.trans hqa).trans hqb)
          have he5 := he2.q hqb
          clear hqa hqb he2 ho2 ho5 hc1 hc2 hcv2
          go_wp2_with fail
          refine (is_any v2 _ _ _ he5).mono ?_
          rintro e wc ⟨rfl, hqc⟩
          have HQ := Lib.hid (HQ.out.trans hqc)
          clear hqc he5
          have g6 : (t5 == t5) = true := by simp
          go_wp2_with fail
          go_ret
          exact ⟨rfl, HQ.out⟩
      · have g2 : decide ((k : Int) < (N : Int)) = false := by simp; omega
        have hcl' : cur.length ≤ 140737488355328 := by omega
        have hcv2 : ∀ W, Q wr W → (convert 35 9 (.slice (some ⟨g, 0, none⟩) S.length cap)).run Try.prog W = .ok (.string ⟨cur.toArray⟩) W := fun W hW => conv_b (HB.out.q hW)
        have hc1 := hcv2 wr (Q.refl wr)
        go_wp2_with fail
        refine (Open_any nm cur _ hn hcl').mono ?_
        rintro e wa ⟨t, v2, x2, a2, rfl, he2, ho2, hqa⟩
        have hc2 := hcv2 wa hqa
        go_wp2_with fail
        refine (OpenR_any nm cur _ hcl' hn).mono ?_
        rintro e wb ⟨t5, x5, a5, rfl, ho5, hqb⟩
        obtain ⟨rfl, rfl, rfl⟩ := ho5.inj ho2
        have HQ := Lib.hid ((HQ.out.trans hqa).trans hqb)
        have he5 := he2.q hqb
        clear hqa hqb he2 ho2 ho5 hc1 hc2 hcv2
        go_wp2_with fail
        refine (is_any v2 _ _ _ he5).mono ?_
        rintro e wc ⟨rfl, hqc⟩
        have HQ := Lib.hid (HQ.out.trans hqc)
        clear hqc he5
        have g6 : (t5 == t5) = true := by simp
        go_wp2_with fail
        go_ret
        exact ⟨rfl, HQ.out⟩
  · go_wp2_with fail
    go_ret
    exact ⟨rfl, HQ.out⟩
end Go.Proofs.Yteadblkkbbhpjaa
