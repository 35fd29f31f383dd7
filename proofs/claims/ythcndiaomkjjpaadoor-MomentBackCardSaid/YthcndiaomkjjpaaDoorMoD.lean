/- The reference takes a moment apart. -/
import Derived.Test.YthcndiaomkjjpaaDoorMoC
set_option linter.unusedVariables false
namespace Go.Proofs.YthcndiaomkjjpaaDoor
open Go Go.RowKit
set_option maxRecDepth 100000 in
set_option maxHeartbeats 4000000 in
theorem Apart_ok (t : Int) (w : World) (h0 : 0 ≤ t) (h1 : t ≤ 253402300799) : Calls Tryd.prog 14 #[.int .i64 t] w fun e w' => e = .returned (.agg (whenV t)) ∧ Q w w' := by
  obtain ⟨n, hn⟩ : ∃ n, n = t / 86400 := ⟨_, rfl⟩
  have hz : zI t = n + 719468 := by rw [hn]; rfl
  have hnb : 0 ≤ n ∧ n ≤ 2932896 := by omega
  obtain ⟨hc, hk⟩ := civ_is (n + 719468) (by omega)
  obtain ⟨hy1, hy2⟩ := civ_year (n + 719468) (by omega) (by omega)
  have hlo := hc.lo
  have hhi := hc.hi
  have hW : whenV t = #[.int .i64 (civY (n + 719468)), .int .i64 (civM (n + 719468)), .int .i64 (civD (n + 719468)), .int .i64 ((n + 4) % 7), .int .i64 (t / 3600 % 24), .int .i64 (t / 60 % 60), .int .i64 (t % 60)] := by unfold whenV; rw [hz, ← hn]
  generalize (civM (n + 719468) - 1).toNat = K at *
  generalize hY : civY (n + 719468) = Y at *
  generalize hM : civM (n + 719468) = M at *
  generalize hD : civD (n + 719468) = D at *
  have HW := Lib.hid hW
  have HC := Lib.hid hc
  have HK := Lib.hid hk
  have HN := Lib.hid hn
  clear hW hc hk hY hM hD hz
  go_enter Tryd.func14, Tryd.ntmps14
  go_upto_region 2 with (fail)
  rw [← HN.out]
  clear hn
  go_upto_region 3 with (fail)
  obtain ⟨w5, hw5, hR5, hW5, hq5⟩ : ∃ w5, w5 = (w.alloc (.cells #[.int .i64 0, .int .i64 0, .int .i64 0, .int .i64 0, .int .i64 0, .int .i64 0, .int .i64 0] 31)).alloc (.cells #[.int .i64 1970, .int .i64 1, .int .i64 0, .int .i64 ((n + 4) % 7), .int .i64 (t / 3600 % 24), .int .i64 (t / 60 % 60), .int .i64 (t % 60)] 31) ∧
      w5.heap[w.heap.size]? = some (.cells #[.int .i64 0, .int .i64 0, .int .i64 0, .int .i64 0, .int .i64 0, .int .i64 0, .int .i64 0] 31 (0, 0)) ∧ WhenAt w5 (w.heap.size + 1) 1970 1 0 ((n + 4) % 7) (t / 3600 % 24) (t / 60 % 60) (t % 60) ∧ Q w w5 :=
    ⟨_, rfl, heap_alloc2_old _ _ _, heap_alloc2_new _ _ _, ((Q.refl w).alloc _).alloc _⟩
  refine Eq.mp (congrArg _ hw5) ?_
  clear hw5
  obtain ⟨g, hg⟩ : ∃ g, g = w.heap.size := ⟨_, rfl⟩
  rw [← hg] at hR5 hW5 ⊢
  have HR := Lib.hid hR5
  have HWh := Lib.hid hW5
  have HQ := Lib.hid hq5
  have HG := Lib.hid hg
  clear hR5 hW5 hq5 hg
  generalize (n + 4) % 7 = wk at *
  generalize t / 3600 % 24 = ho at *
  generalize t / 60 % 60 = mi at *
  generalize t % 60 = se at *
  go_loopw [3] (fun v wr => ∃ y c : Int, 1970 ≤ y ∧ y ≤ Y ∧ v = .int .i64 c ∧ Hid (c = n + 719468 - J y) ∧ 0 ≤ c ∧ c ≤ n ∧ WhenAt wr (g + 1) y 1 0 wk ho mi se ∧ GX [g + 1] w5 wr) (fun v _ => (intOf v).toNat)
  case atStart => exact ⟨1970, n, by omega, hy1, rfl, Lib.hid (by rw [J_1970]; omega), by omega, by omega, HWh.out, GX.refl _ _⟩
  case round =>
    obtain ⟨y, c, hya, hyb, rfl, hc, hc0, hcn, hWA, hG⟩ := hrel
    have c0 : wr.cell? ⟨g + 1, 0, none⟩ = some (.int .i64 y) := hWA.cell 0
    have f0 : wr.frozen? ⟨g + 1, 0, none⟩ = false := hWA.frozen 0
    have hyd := year_bd y
    by_cases hlt : y < Y
    · have hge : yearI y ≤ c := by
        have h2 := J_succ y
        have h3 : J (y + 1) ≤ J Y := by
          rcases Int.lt_or_eq_of_le (show y + 1 ≤ Y from by omega) with e | e
          · have := J_mono _ _ e; omega
          · rw [e]; exact Int.le_refl _
        have := hc.out
        omega
      have hd : decide (yearI y ≤ c) = true := by simpa using hge
      have hs : c - yearI y = n + 719468 - J (y + 1) := by rw [hc.out, J_succ]; omega
      have HS := Lib.hid hs
      have hWs : WhenAt (wr.setCell ⟨g + 1, 0, none⟩ (.int .i64 (y + 1))) (g + 1) (y + 1) 1 0 wk ho mi se := hWA.set 0 _
      have HWS := Lib.hid hWs
      have HGS := Lib.hid (hG.set (g := g + 1) (by simp) 0 (.int .i64 (y + 1)))
      clear hs hWs hWA hG HR HWh
      generalize hL : yearI y = L at *
      have HL := Lib.hid hL
      clear hL
      go_wp2_with (go_at_call 29; refine (days0_any _ _ (by omega) (by omega)).mono ?_; rintro e w' ⟨rfl, rfl⟩; rw [HL.out])
      go_roundw
      case rel => exact ⟨y + 1, c - L, by omega, by omega, rfl, HS, by omega, by omega, HWS.out, HGS.out⟩
      case measure => simp [intOf]; omega
    · obtain rfl : y = Y := by omega
      have hle : c < yearI y := by
        have h2 := J_succ y
        have := hc.out
        omega
      have hd : decide (yearI y ≤ c) = false := by simpa using hle
      have HWA := Lib.hid hWA
      have HGA := Lib.hid hG
      clear hWA hG HWh hle
      generalize hL : yearI y = L at *
      have HL := Lib.hid hL
      clear hL
      go_wp2_with (go_at_call 29; refine (days0_any _ _ (by omega) (by omega)).mono ?_; rintro e w' ⟨rfl, rfl⟩; rw [HL.out])
      clear c0 f0 hd hyd
      obtain ⟨Z, hZ⟩ : ∃ Z, Z = n + 719468 := ⟨_, rfl⟩
      rw [← hZ] at HC hc hlo hhi
      go_loopw [3] (fun v wz => ∃ (k : Nat) (c : Int), k ≤ K ∧ v = .int .i64 c ∧ Hid (c = Z - J y - cumI y k) ∧ 0 ≤ c ∧ c ≤ n ∧ WhenAt wz (g + 1) y ((k : Int) + 1) 0 wk ho mi se ∧ GX [g + 1] w5 wz) (fun v _ => (intOf v).toNat)
      case atStart => exact ⟨0, c, by omega, rfl, Lib.hid (by rw [hc.out]; simp [cumI]), by omega, by omega, HWA.out, HGA.out⟩
      case round =>
        obtain ⟨k, c, hkK, rfl, hc, hc0, hcn, hWA, hG⟩ := hrel
        have c0 : wr.cell? ⟨g + 1, 0, none⟩ = some (.int .i64 y) := hWA.cell 0
        have c1 : wr.cell? ⟨g + 1, 1, none⟩ = some (.int .i64 ((k : Int) + 1)) := hWA.cell 1
        have f1 : wr.frozen? ⟨g + 1, 1, none⟩ = false := hWA.frozen 1
        have hK12 := HC.out.k12
        have hlb := long_bd y ((k : Int) + 1)
        by_cases hlt : k < K
        · have hge : longI y ((k : Int) + 1) ≤ c := by
            have h2 := cum_mono y (k + 1) K (by omega)
            have h3 := HC.out.num
            have h4 := HC.out.dlo
            have h5 : cumI y (k + 1) = cumI y k + longI y ((k : Int) + 1) := rfl
            have := hc.out
            omega
          have hd : decide (longI y ((k : Int) + 1) ≤ c) = true := by simpa using hge
          have hs : c - longI y ((k : Int) + 1) = Z - J y - cumI y (k + 1) := by
            have h5 : cumI y (k + 1) = cumI y k + longI y ((k : Int) + 1) := rfl
            rw [hc.out, h5]; omega
          have HS := Lib.hid hs
          have hWs : WhenAt (wr.setCell ⟨g + 1, 1, none⟩ (.int .i64 ((k : Int) + 1 + 1))) (g + 1) y (((k + 1 : Nat) : Int) + 1) 0 wk ho mi se := hWA.set 1 _
          have HWS := Lib.hid hWs
          have HGS := Lib.hid (hG.set (g := g + 1) (by simp) 1 (.int .i64 ((k : Int) + 1 + 1)))
          clear hs hWs hWA hG HR
          generalize hL : longI y ((k : Int) + 1) = L2 at *
          have HL2 := Lib.hid hL
          clear hL
          go_wp2_with (go_at_call 29; refine (daysM_any _ _ _ (by omega) (by omega) (by omega) (by omega)).mono ?_; rintro e w' ⟨rfl, rfl⟩; rw [HL2.out])
          go_roundw
          case rel => exact ⟨k + 1, c - L2, by omega, rfl, HS, by omega, by omega, HWS.out, HGS.out⟩
          case measure => simp [intOf]; omega
        · obtain rfl : k = K := by omega
          have hDc : D = c + 1 := by have := hc.out; have := HC.out.num; omega
          have hle : c < longI y ((k : Int) + 1) := by have := HC.out.dhi; omega
          have hd : decide (longI y ((k : Int) + 1) ≤ c) = false := by simpa using hle
          have c2 : wr.cell? ⟨g + 1, 2, none⟩ = some (.int .i64 0) := hWA.cell 2
          have f2 : wr.frozen? ⟨g + 1, 2, none⟩ = false := hWA.frozen 2
          have hWs : (wr.setCell ⟨g + 1, 2, none⟩ (.int .i64 (c + 1))).heap[g + 1]? = some (.cells (whenV t) 31 (0, 0)) := by
            rw [hWA.set 2, HW.out, ← HK.out, hDc]; rfl
          have hG2 := hG.set (g := g + 1) (by simp) 2 (.int .i64 (c + 1))
          have hR2 := hG2.heap (k := g) (by simp) HR.out
          have HWS := Lib.hid hWs
          have HR2 := Lib.hid hR2
          have HQ2 := Lib.hid (hG2.toQ HQ.out (by intro x hx; simp at hx; have := HG.out; omega))
          have HDC := Lib.hid hDc
          clear hWs hG2 hR2 hWA hG hle HR hDc
          generalize hL : longI y ((k : Int) + 1) = L2 at *
          have HL2 := Lib.hid hL
          clear hL
          go_upto_region 10 with (go_at_call 29; refine (daysM_any _ _ _ (by omega) (by omega) (by omega) (by omega)).mono ?_; rintro e w' ⟨rfl, rfl⟩; rw [HL2.out])
          generalize wr.setCell ⟨g + 1, 2, none⟩ (.int .i64 (c + 1)) = w8 at *
          clear c0 c1 c2 f1 f2 hd
          have hi7 : (Tryd.prog.info? 31).map (·.size) = some (whenV t).size := infoWhen
          have hall : (whenV t).all (·.oneCell') = true := by unfold whenV; simp [Value.oneCell']
          generalize hV : whenV t = V at *
          have HV := Lib.hid hV
          clear hV
          iterate 1 go_step
          refine wpList_load_row rfl 31 (.tmp 4) rfl (g + 1) (by rfl) _ _ _ _ HWS.out Tryd.underlying31 rfl hi7 ?_
          refine wpList_store_row rfl 31 (.tmp 2) (.tmp 54) rfl g V (by rfl) (by rfl) 31 _ HR2.out hi7 (by have := hi7; rw [infoWhen] at this; simp at this ⊢; omega) hall ?_
          have hr : (w8.setRow g V).heap[g]? = some (.cells V 31 (0, 0)) := by
            simp only [World.setRow, Array.getElem?_modify, if_true]
            rw [HR2.out]; rfl
          have hq := Q.setRow HQ2.out (g := g) (by have := HG.out; omega) V
          generalize w8.setRow g V = w9 at *
          have HR9 := Lib.hid hr
          have HQ9 := Lib.hid hq
          clear hr hq
          go_wp2_with fail
          refine bodyPost_ret (v := .agg V) ?_ rfl ⟨by rw [HV.out], HQ9.out⟩
          exact results_cell_row rfl _ _ g 31 _ (0, 0) _ rfl HR9.out Tryd.underlying31 rfl hi7
end Go.Proofs.YthcndiaomkjjpaaDoor
