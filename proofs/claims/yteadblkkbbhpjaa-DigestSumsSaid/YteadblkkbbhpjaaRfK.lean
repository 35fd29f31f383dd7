/- The reference's HMAC. -/
import Derived.Test.YteadblkkbbhpjaaRfC
import Derived.Test.YteadblkkbbhpjaaMac
import Derived.Test.YteadblkkbbhpjaaMix
set_option linter.unusedVariables false
namespace Go.Proofs.Yteadblkkbbhpjaa
open Go Go.RowKit
/-- make([]byte, n, n). -/
theorem make_full (n : Nat) (w : World) (hn : n ≤ 281474976710656) : ∃ w', (Instr.makeSlice 35 (.int .i64 (n : Int)) (.int .i64 (n : Int))).run Try.prog w = .ok (.slice (some ⟨w.heap.size, 0, none⟩) n n) w' ∧ OwnB w w' (.slice (some ⟨w.heap.size, 0, none⟩) n n) (List.replicate n 0) ∧ Q w w' ∧ w'.heap.size = w.heap.size + 1 := by
  obtain ⟨i, hi, hz, hsz, hby⟩ := info_parts info_u8
  have h := run_make (P := Try.prog) w 35 5 i _ Try.underlying35 hi hz .i64 .i64 (n : Int) (n : Int) (by omega) (by omega) (by rw [hby]; omega) (by omega)
  refine ⟨_, h, .inr ⟨w.heap.size, n, _, (0, 0), by simp, Nat.le_refl _, heap_alloc_new w _, .inl rfl, by simp, by unfold maxLen; omega, ?_, ?_⟩, (Q.refl w).alloc _, by simp⟩
  · rw [size_madeCells, hsz]; simp
  · rw [hsz]
    apply List.ext_getElem?
    intro j
    simp only [madeCells, List.length_replicate, List.map_replicate, Int.toNat_natCast, Nat.mul_one, List.getElem?_take, Array.getElem?_toList, Array.getElem?_map, List.getElem?_replicate]
    by_cases hj : j < n
    · simp [hj, Value.cells, u8V, Nat.mod_one]
    · simp [hj]
/-- What the first k bytes become, the others 0. -/
def mixR (x : UInt8) (b : List UInt8) (k : Nat) : List UInt8 := (xo8 x b).take k ++ List.replicate (64 - k) 0
theorem mixR_0 (x : UInt8) (b : List UInt8) : mixR x b 0 = List.replicate 64 0 := by simp [mixR]
theorem mixR_length (x : UInt8) (b : List UInt8) (k : Nat) (hb : b.length = 64) (hk : k ≤ 64) : (mixR x b k).length = 64 := by simp [mixR, xo8, hb]; omega
theorem mixR_all (x : UInt8) (b : List UInt8) (hb : b.length = 64) : mixR x b 64 = xo8 x b := by unfold mixR; rw [List.take_of_length_le (by rw [xo8_length]; omega)]; simp
theorem mixR_step (x : UInt8) (b : List UInt8) (k : Nat) (hb : b.length = 64) (hk : k < 64) : (mixR x b k).set k (xb (gB b k) x) = mixR x b (k + 1) := by
  unfold mixR
  have h1 : ((xo8 x b).take k).length = k := by rw [List.length_take, xo8_length]; omega
  have h2 : k < (xo8 x b).length := by rw [xo8_length]; omega
  rw [List.set_append, if_neg (by omega), h1, Nat.sub_self, show 64 - k = (64 - (k + 1)) + 1 from by omega, List.replicate_succ, List.set_cons_zero, List.take_succ_eq_append_getElem h2]
  have h3 : (xo8 x b)[k] = xb (gB b k) x := by simp [xo8, gB, List.getD, show k < b.length by omega]
  rw [h3]
  simp
theorem keyB_at (k : List UInt8) (i : Nat) : gB (keyB k) i = gB k i := by
  unfold keyB gB
  by_cases h : i < k.length
  · simp [List.getD, List.getElem?_append_left, h]
  · simp only [List.getD]
    rw [List.getElem?_append_right (by omega), List.getElem?_replicate, List.getElem?_eq_none (by omega)]
    split <;> rfl
theorem OwnB.x {w0 w w' : World} {v : Value} {b : List UInt8} {S : List Nat} (h : OwnB w0 w v b) (hg : GX S w w') (hS : ∀ k, v.ownBlock = some k → k ∉ S) : OwnB w0 w' v b := by
  rcases h with h | ⟨g, cap, cur, fz, hv, h1, h2, h3⟩
  · exact .inl h
  · exact .inr ⟨g, cap, cur, fz, hv, h1, hg.heap (hS g (by rw [hv]; rfl)) h2, h3⟩
/-- The cells of such a slice at the head of its block. -/
theorem OwnB.at {w0 w : World} {g n cap : Nat} {b : List UInt8} (h : OwnB w0 w (.slice (some ⟨g, 0, none⟩) n cap) b) (i : Nat) (hi : i < b.length) : w.cell? ⟨g, i, none⟩ = some (.int .u8 ((gB b i).toNat : Int)) ∧ w.frozen? ⟨g, i, none⟩ = false := by
  obtain ⟨g', cap', hv, _, _, _, hc⟩ := h.pos (by omega)
  cases hv
  exact hc i hi
set_option maxRecDepth 100000 in
set_option maxHeartbeats 4000000 in
theorem MACR_tail (k key s : List UInt8) (w : World) (hk : k.length ≤ 64) (hs : s.length ≤ 140737488355328) (hkey : key.length ≤ 140737488355328) (hkk : keyOf key = k) :
    Calls Try.prog 30 #[.string ⟨key.toArray⟩, .string ⟨s.toArray⟩] w fun e w' => e = .returned (.string ⟨(mac key s).toArray⟩) ∧ Q w w' := by
  have hm : mac key s = sha (xo8 0x5c (keyB k) ++ sha (xo8 0x36 (keyB k) ++ s)) := by unfold mac; rw [hkk]
  have HM := Lib.hid hm
  have HK := Lib.hid hkk
  clear hm hkk
  go_enter Try.func30, Try.ntmps30
  go_wp2_with fail
  with_reducible refine (words_any _).mono ?_
  rintro e w1 ⟨rfl, hq1⟩
  have HQ1 := Lib.hid hq1
  clear hq1
  go_upto_region 2 with (refine wpList_store_row rfl 85 (.tmp 5) (.tmp 10) (by rfl) w1.heap.size (arrM wordsA) (by rfl) (by rfl) 85 _ (heap_alloc_new w1 _) (by rw [arrM_size]; exact infoW) rfl (arr_all _) ?_)
  obtain ⟨w3, hw3, hW3, hq3⟩ := w5_start w1 Try.zeroCells85
  rw [← hw3]
  clear hw3
  generalize w1.heap.size = gw at *
  have HW3 := Lib.hid hW3
  have HQ3 := Lib.hid (HQ1.out.trans hq3)
  clear hW3 hq3 HQ1
  go_upto_if 13 with (fail)
  go_cut [0] (fun s0 wx => s0 = .string ⟨k.toArray⟩ ∧ WordsAt wx gw ∧ Q w wx)
  case first =>
    by_cases hb : 64 < key.length
    · have hd : decide ((64 : Int) < (key.length : Int)) = true := by simp; omega
      have hd2 : decide (64 < key.length) = true := by simp; omega
      have hkk : sha key = k := by rw [← HK.out]; unfold keyOf; rw [if_pos hb]
      have HK2 := Lib.hid hkk
      clear hkk
      go_upto_region 3 with (fail)
      iterate 4 go_step
      refine wpList_load_row rfl 85 (.tmp 5) rfl gw (by rfl) _ _ _ _ HW3.out Try.underlying85 rfl (by rw [arrM_size]; exact infoW) ?_
      go_wp2_with fail
      with_reducible refine (sumR_any key _ (by omega)).mono ?_
      rintro e w2 ⟨rfl, hq2⟩
      go_wp2_with fail
      go_meet
      case rel => exact ⟨by rw [HK2.out], hq2.block HW3.out, HQ3.out.trans hq2⟩
    · have hd : decide ((64 : Int) < (key.length : Int)) = false := by simp; omega
      have hd2 : decide (64 < key.length) = false := by simp; omega
      have hkk : key = k := by rw [← HK.out]; unfold keyOf; rw [if_neg hb]
      have HK2 := Lib.hid hkk
      clear hkk
      go_wp2_with fail
      go_meet
      case rel => exact ⟨by rw [HK2.out], HW3.out, HQ3.out⟩
  case rest =>
    obtain ⟨rfl, hWW, hQQ⟩ := hcut
    obtain ⟨wi, hri, hoi, hqi, hsi⟩ := make_full 64 wc (by decide)
    obtain ⟨wo, hro, hoo, hqo, hso⟩ := make_full 64 wi (by decide)
    have hWo : WordsAt wo gw := (hqi.trans hqo).block hWW
    have hQo := (hQQ.trans hqi).trans hqo
    have hoi2 : OwnB wc wo (.slice (some ⟨wc.heap.size, 0, none⟩) 64 64) (List.replicate 64 0) := hoi.q hqo
    have hoo2 := hoo.base hqi.size
    have hgw : gw < wc.heap.size := lt_of_heap hWW
    rw [hsi] at hoo2 hro
    rw [show ((64 : Nat) : Int) = 64 from rfl] at hri hro
    have hQc := hQQ.size
    generalize hgi : wc.heap.size = gi at *
    have HOI := Lib.hid hoi2
    have HOO := Lib.hid hoo2
    have HWO := Lib.hid hWo
    have HQO := Lib.hid hQo
    clear hWW hQQ hoi hoo hqi hqo hoi2 hoo2 hWo hQo hsi hso hgi
    go_upto_region 7 with (fail)
    clear hri hro
    have hKl := keyB_length k hk
    have hKa := keyB_at k
    generalize keyB k = K at *
    have HKL := Lib.hid hKl
    have HKA := Lib.hid hKa
    clear hKl hKa
    go_loopw [8] (fun i wz => ∃ j : Nat, j ≤ 64 ∧ i = .int .i64 j ∧ OwnB wc wz (.slice (some ⟨gi, 0, none⟩) 64 64) (mixR 0x36 K j) ∧ OwnB wc wz (.slice (some ⟨gi + 1, 0, none⟩) 64 64) (mixR 0x5c K j) ∧ GX [gi, gi + 1] wo wz) (fun i _ => 64 - (intOf i).toNat)
    case atStart => exact ⟨0, by omega, rfl, by rw [mixR_0]; exact HOI.out, by rw [mixR_0]; exact HOO.out, GX.refl _ _⟩
    case round =>
      obtain ⟨j, hj, rfl, hI, hO, hG⟩ := hrel
      by_cases hj64 : j < 64
      · have hd : decide ((j : Int) < 64) = true := by simp; omega
        have hil := mixR_length 0x36 K j HKL.out hj
        have hol := mixR_length 0x5c K j HKL.out hj
        have hI2 := hI.set j (xb (gB k j) 0x36)
        rw [← HKA.out j, mixR_step 0x36 K j HKL.out hj64, HKA.out j] at hI2
        by_cases hin : j < k.length
        · have hd2 : decide (j < k.length) = true := by simpa using hin
          obtain ⟨V1, hV1⟩ : ∃ V1, V1 = ((xb (gB k j) 0x36).toNat : Int) := ⟨_, rfl⟩
          obtain ⟨V2, hV2⟩ : ∃ V2, ((xb (gB k j) 0x5c).toNat : Int) = V2 := ⟨_, rfl⟩
          have x1 : bits .xor .u8 ((gB k j).toNat : Int) 54 = V1 := by rw [hV1]; exact xor8 _ 54
          have x2 : bits .xor .u8 ((gB k j).toNat : Int) 92 = V2 := by rw [← hV2]; exact xor8 _ 92
          rw [← hV1] at hI2
          have HV2 := Lib.hid hV2
          have HI2 := Lib.hid hI2
          clear hV1 hV2 hI2
          go_upto_region 12 with (fail)
          have hi1 := (hI.at j (by omega)).1
          have hi2 := (hI.at j (by omega)).2
          go_upto_region 13 with (fail)
          clear x1 hi1 hi2
          obtain ⟨wv, hwv, hIv, hGv⟩ : ∃ wv, wv = wr.setCell ⟨gi, j, none⟩ (.int .u8 V1) ∧ OwnB wc wv (.slice (some ⟨gi, 0, none⟩) 64 64) (mixR 0x36 K (j + 1)) ∧ GX [gi] wr wv := ⟨_, rfl, HI2.out, (GX.refl _ _).set (by simp) _ _⟩
          refine Eq.mp (congrArg _ hwv) ?_
          clear hwv
          have hOv := hO.x hGv (by intro k hk; simp [Value.ownBlock] at hk; simp; omega)
          have ho1 := (hOv.at j (by omega)).1
          have ho2 := (hOv.at j (by omega)).2
          have hO3 := hOv.set j (xb (gB k j) 0x5c)
          rw [← HKA.out j, mixR_step 0x5c K j HKL.out hj64, HKA.out j, HV2.out] at hO3
          have hI3 := hIv.x ((GX.refl [gi + 1] wv).set (g := gi + 1) (by simp) j (.int .u8 V2)) (by intro k hk; simp [Value.ownBlock] at hk; simp; omega)
          have hG3 := ((hG.trans (hGv.mono (S' := [gi, gi + 1]) (by simp))).set (g := gi + 1) (by simp) j (.int .u8 V2))
          have HI3 := Lib.hid hI3
          have HO3 := Lib.hid hO3
          have HG3 := Lib.hid hG3
          clear hIv hOv hO3 hI3 hG3 hGv hI hO hG
          go_wp2_with fail
          go_roundw
          case rel => exact ⟨j + 1, by omega, by go_num, HI3.out, HO3.out, HG3.out⟩
          case measure => simp [intOf]; omega
        · have hd2 : decide (j < k.length) = false := by simpa using hin
          have hz : gB k j = 0 := by simp [gB, List.getD]; rw [List.getElem?_eq_none (by omega)]; rfl
          obtain ⟨V1, hV1⟩ : ∃ V1, V1 = ((xb (gB k j) 0x36).toNat : Int) := ⟨_, rfl⟩
          obtain ⟨V2, hV2⟩ : ∃ V2, ((xb (gB k j) 0x5c).toNat : Int) = V2 := ⟨_, rfl⟩
          have hV3 : V1 = 54 := by rw [hV1, hz]; rfl
          have hV4 : V2 = 92 := by rw [← hV2, hz]; rfl
          have x1 : bits .xor .u8 0 54 = V1 := by rw [hV3]; decide
          have x2 : bits .xor .u8 0 92 = V2 := by rw [hV4]; decide
          rw [← hV1] at hI2
          have HV2 := Lib.hid hV2
          have HI2 := Lib.hid hI2
          clear hV1 hV2 hI2 hV3 hV4 hz
          go_upto_region 12 with (fail)
          have hi1 := (hI.at j (by omega)).1
          have hi2 := (hI.at j (by omega)).2
          go_upto_region 13 with (fail)
          clear x1 hi1 hi2
          obtain ⟨wv, hwv, hIv, hGv⟩ : ∃ wv, wv = wr.setCell ⟨gi, j, none⟩ (.int .u8 V1) ∧ OwnB wc wv (.slice (some ⟨gi, 0, none⟩) 64 64) (mixR 0x36 K (j + 1)) ∧ GX [gi] wr wv := ⟨_, rfl, HI2.out, (GX.refl _ _).set (by simp) _ _⟩
          refine Eq.mp (congrArg _ hwv) ?_
          clear hwv
          have hOv := hO.x hGv (by intro k hk; simp [Value.ownBlock] at hk; simp; omega)
          have ho1 := (hOv.at j (by omega)).1
          have ho2 := (hOv.at j (by omega)).2
          have hO3 := hOv.set j (xb (gB k j) 0x5c)
          rw [← HKA.out j, mixR_step 0x5c K j HKL.out hj64, HKA.out j, HV2.out] at hO3
          have hI3 := hIv.x ((GX.refl [gi + 1] wv).set (g := gi + 1) (by simp) j (.int .u8 V2)) (by intro k hk; simp [Value.ownBlock] at hk; simp; omega)
          have hG3 := ((hG.trans (hGv.mono (S' := [gi, gi + 1]) (by simp))).set (g := gi + 1) (by simp) j (.int .u8 V2))
          have HI3 := Lib.hid hI3
          have HO3 := Lib.hid hO3
          have HG3 := Lib.hid hG3
          clear hIv hOv hO3 hI3 hG3 hGv hI hO hG
          go_wp2_with fail
          go_roundw
          case rel => exact ⟨j + 1, by omega, by go_num, HI3.out, HO3.out, HG3.out⟩
          case measure => simp [intOf]; omega
      · obtain rfl : j = 64 := by omega
        rw [show ((64 : Nat) : Int) = 64 from rfl]
        have hd : decide ((64 : Int) < 64) = false := by decide
        rw [mixR_all _ _ HKL.out] at hI hO
        have hcI := fun m : QW wr => conv_b (hI.q m.le)
        have hcO := fun m : QW wr => conv_b (hO.q m.le)
        have hWr : WordsAt wr gw := hG.heap (by simp; omega) HWO.out
        have hWm : ∀ w' : World, (∃ m : QW wr, w' = m.val) → w'.heap[gw]? = some (.cells (arrM wordsA) 85 (0, 0)) := fun w' ⟨m, hm⟩ => by rw [hm]; exact m.le.block hWr
        have HWM := Lib.hid hWm
        have hl5 := xo8_length 0x5c K
        have hl3 := xo8_length 0x36 K
        rw [HKL.out] at hl5 hl3
        have hQr : Q w wr := hG.toQ HQO.out (by intro x hx; simp at hx; have := HQ3.out.size; have := hQc; omega)
        have HQR := Lib.hid hQr
        generalize xo8 0x5c K = X at *
        generalize xo8 0x36 K = Y at *
        have hXl : X.length ≤ 64 := by omega
        have hYl : Y.length ≤ 64 := by omega
        have hb1 : Y.length + s.length ≤ 140737488355392 := by omega
        have hZl := sha_length (Y ++ s)
        generalize hZ : sha (Y ++ s) = Z at *
        have HZ := Lib.hid hZ
        clear hI hO hG hWr hWm HOI HOO hQr hl5 hl3 hZ
        go_upto_region 14 with (fail)
        refine wp_region_q (by kernel_rfl) (by kernel_rfl) ?_
        (repeat (go_big_quiet_step (fail)))
        refine wpQuiet_load_row rfl 85 (.tmp 5) rfl gw (by rfl) _ _ _ _ HWM.out Try.underlying85 rfl (by rw [arrM_size]; exact infoW) ?_
        simp only [Act.put, List.setIfInBounds_toArray, List.set_cons_succ, List.set_cons_zero]
        (repeat (go_big_quiet_step ((go_at_call 56; exact calls_q (sumR_any (Y ++ s) _ (by rw [List.length_append]; omega))))))
        rw [HZ.out]
        (repeat (go_big_quiet_step (fail)))
        refine wpQuiet_load_row rfl 85 (.tmp 5) rfl gw (by rfl) _ _ _ _ HWM.out Try.underlying85 rfl (by rw [arrM_size]; exact infoW) ?_
        simp only [Act.put, List.setIfInBounds_toArray, List.set_cons_succ, List.set_cons_zero]
        (repeat (go_big_quiet_step ((go_at_call 56; exact calls_q (sumR_any (X ++ Z) _ (by rw [List.length_append]; omega))))))
        refine wpQuiet_nil ?_
        rintro wx ⟨mx, hmx⟩
        have hqx : Q w wx := by rw [hmx]; exact HQR.out.trans mx.le
        have HQX := Lib.hid hqx
        clear hmx mx hqx hcO hcI
        rw [← HM.out]
        go_wp2_with fail
        go_ret
        exact ⟨rfl, HQX.out⟩
theorem MACR_any (key s : List UInt8) (w : World) (hs : s.length ≤ 140737488355328) (hkey : key.length ≤ 140737488355328) :
    Calls Try.prog 30 #[.string ⟨key.toArray⟩, .string ⟨s.toArray⟩] w fun e w' => e = .returned (.string ⟨(mac key s).toArray⟩) ∧ Q w w' := by
  refine MACR_tail (keyOf key) key s w ?_ (by omega) (by omega) rfl
  unfold keyOf
  split
  · rw [sha_length]; omega
  · omega
end Go.Proofs.Yteadblkkbbhpjaa
