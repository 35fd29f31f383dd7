/- Texts of this proof, laid into one: SgY, Sja, Sjb, VaE. -/
import Derived.Test.YtmmoenbmgcplkaaGreatDoorMx20
set_option linter.unusedVariables false
set_option linter.unusedSimpArgs false
namespace Go.Proofs.YtmmoenbmgcplkaaGreatDoor
open Go Go.RowKit
theorem small_self (l : List UInt8) : (nameF l = true ∧ smL l = l) ↔ okName l = true := by
  have key : ∀ n : Fin 256, (chrF n.val.toUInt8 = true ∧ smB n.val.toUInt8 = n.val.toUInt8) ↔ chrW n.val.toUInt8 = true := by decide +kernel
  have kb : ∀ b : UInt8, (chrF b = true ∧ smB b = b) ↔ chrW b = true := fun b => by
    have := key ⟨b.toNat, b.toNat_lt⟩
    simpa using this
  have hsm : smL l = l ↔ ∀ b ∈ l, smB b = b := by
    unfold smL
    induction l with
    | nil => simp
    | cons a r ih => rw [List.map_cons]; simp [ih]
  unfold nameF okName
  rw [hsm]
  simp only [Bool.and_eq_true, List.all_eq_true]
  constructor
  · rintro ⟨⟨h1, h2⟩, h3⟩
    exact ⟨h2, fun b hb => (kb b).1 ⟨h1 b hb, h3 b hb⟩⟩
  · rintro ⟨h1, h2⟩
    exact ⟨⟨fun b hb => ((kb b).2 (h2 b hb)).1, h1⟩, fun b hb => ((kb b).2 (h2 b hb)).2⟩
set_option maxRecDepth 100000 in
set_option maxHeartbeats 4000000 in
theorem RNames_any (A : Option Addr) (n cap : Nat) (ls : List (List UInt8)) (w : World) (h : NmAt w A n ls) (hn : n ≤ 10000000) (hb : ∀ l ∈ ls, l.length ≤ 100000000) :
    Calls Tryz.prog 37 #[.slice A n cap] w (NmPost ls w) := by
  obtain rfl := h.1
  have HP := Lib.hid h
  have HB := Lib.hid hb
  have HNm := Lib.hid (fun (l : List UInt8) W (hl : l.length ≤ 100000000) => RName_any l W hl)
  have HSm := Lib.hid (fun (l : List UInt8) W (hl : l.length ≤ 100000000) => RSmall_any l W hl)
  clear h hb
  go_enter Tryz.func37, Tryz.ntmps37
  go_wp2_with fail
  go_loopw [3] (fun i wr => ∃ k : Nat, k ≤ ls.length ∧ i = .int .i64 (k : Int) ∧ Hid (∀ j, j < k → nameAt ls j) ∧ Hid (Q w wr)) (fun i _ => ls.length - (intOf i).toNat)
  case atStart => exact ⟨0, by omega, rfl, Lib.hid (fun j h => by omega), Lib.hid (Q.refl _)⟩
  case round =>
    obtain ⟨k, hk, rfl, HA, HQ⟩ := hrel
    by_cases hlt : k < ls.length
    · have g1 : decide (k < ls.length) = true := by simpa using hlt
      obtain ⟨g, off, rfl, cx⟩ := (HP.out.q HQ.out).at hlt
      have HNo : Hid (¬ nameAt ls k → ¬ namesOk ls) := Lib.hid (fun h h2 => h (h2.2 k hlt))
      have hxl : (gL ls k).length ≤ 100000000 := by rw [gL_get ls k hlt]; exact HB.out _ (List.getElem_mem hlt)
      obtain ⟨x, hx⟩ : ∃ x, gL ls k = x := ⟨_, rfl⟩
      have HX := Lib.hid hx
      rw [hx] at cx hxl
      clear hx
      rename World => wa
      have HK := Lib.hid (small_self x)
      have HN1 := Lib.hid (fun W => HNm.out x W hxl)
      have HS1 := Lib.hid (fun W => HSm.out x W hxl)
      obtain ⟨NB, hNB⟩ : ∃ b, nameF x = b := ⟨_, rfl⟩
      obtain ⟨SX, hSX⟩ : ∃ b, smL x = b := ⟨_, rfl⟩
      rw [hNB] at HN1 HK
      rw [hSX] at HS1 HK
      clear hNB hSX
      have kx : ∀ m : QW wa, m.val.cell? ⟨g, off + k, none⟩ = some (.string ⟨x.toArray⟩) := fun m => m.cell cx
      rcases NB with _ | _
      · have HF : Hid (¬ namesOk ls) := Lib.hid (HNo.out (fun h => by have h1 := h.1; rw [HX.out, ← HK.out] at h1; exact absurd h1.1 (by decide)))
        clear HNo HK
        go_wp2_with fail
        refine (HN1.out _).mono ?_
        rintro e w2 ⟨rfl, rfl⟩
        go_upto_region 5 with (fail)
        refine wp_region_q (by kernel_rfl) (by kernel_rfl) ?_
        (repeat (go_big_quiet_step ((go_at_call 85; exact calls_q (HS1.out _)))))
        refine wpQuiet_nil ?_
        rintro w3 ⟨m3, hm3⟩
        have hq3 : Q w2 w3 := by rw [hm3]; exact m3.le
        have HQ3 := Lib.hid (HQ.out.trans hq3)
        clear m3 hm3 hq3 kx
        go_wp2_with fail
        go_ret
        exact ⟨⟨false, rfl, by simp [HF.out]⟩, HQ3.out⟩
      · by_cases hsx : SX = x
        · have q1 : (SX == x) = true := by simpa using hsx
          have HOK : Hid (okName (gL ls k) = true) := Lib.hid (by rw [HX.out]; exact HK.out.1 ⟨rfl, hsx⟩)
          have HSX := Lib.hid hsx
          clear hsx HK
          rcases k with _ | m
          · rw [Nat.add_zero] at cx
            simp only [Nat.add_zero] at kx
            have HA2 : Hid (∀ j, j < 0 + 1 → nameAt ls j) := Lib.hid (fun j hj => by
              obtain rfl : j = 0 := by omega
              exact ⟨HOK.out, fun h => by omega⟩)
            rw [show ((0 : Nat) : Int) = 0 from rfl]
            clear HNo
            go_wp2_with fail
            refine (HN1.out _).mono ?_
            rintro e w2 ⟨rfl, rfl⟩
            go_upto_region 5 with (fail)
            refine wp_region_q (by kernel_rfl) (by kernel_rfl) ?_
            (repeat (go_big_quiet_step ((go_at_call 85; exact calls_q (HS1.out _)))))
            refine wpQuiet_nil ?_
            rintro w3 ⟨m3, hm3⟩
            have hq3 : Q w2 w3 := by rw [hm3]; exact m3.le
            have HQ3 := Lib.hid (HQ.out.trans hq3)
            clear m3 hm3 hq3 kx
            go_wp2_with fail
            go_roundw
            case rel => exact ⟨0 + 1, by omega, by go_num, HA2, HQ3⟩
            case measure => simp [intOf]; omega
          · obtain ⟨g2, off2, had, cy⟩ := (HP.out.q HQ.out).at (show m < ls.length by omega)
            cases had
            have hmi : 0 < (m : Int) + 1 := by omega
            obtain ⟨y, hy⟩ : ∃ y, gL ls m = y := ⟨_, rfl⟩
            have HY := Lib.hid hy
            rw [hy] at cy
            clear hy
            have ky : ∀ m' : QW wa, m'.val.cell? ⟨g, off + m, none⟩ = some (.string ⟨y.toArray⟩) := fun m' => m'.cell cy
            rcases hb1 : Op.bytesLess x y with _ | _
            · rcases hb2 : (x == y) with _ | _
              · have hlt2 : y < x := by
                  have h1 : ¬ x < y := fun h => by rw [(blw_lt x y).2 h] at hb1; cases hb1
                  have h2 : x ≠ y := by simpa using hb2
                  exact List.not_le.1 (fun hle => h2 (List.le_antisymm hle (List.not_lt.1 h1)))
                have HA2 : Hid (∀ j, j < m + 1 + 1 → nameAt ls j) := Lib.hid (fun j hj => by
                  by_cases e : j = m + 1
                  · subst e; exact ⟨HOK.out, fun _ => by rw [HX.out, show m + 1 - 1 = m by omega, HY.out]; exact hlt2⟩
                  · exact HA.out j (by omega))
                clear hlt2 HNo
                go_wp2_with fail
                refine (HN1.out _).mono ?_
                rintro e w2 ⟨rfl, rfl⟩
                go_upto_region 5 with (fail)
                refine wp_region_q (by kernel_rfl) (by kernel_rfl) ?_
                (repeat (go_big_quiet_step ((go_at_call 85; exact calls_q (HS1.out _)))))
                refine wpQuiet_nil ?_
                rintro w3 ⟨m3, hm3⟩
                have hq3 : Q w2 w3 := by rw [hm3]; exact m3.le
                have HQ3 := Lib.hid (HQ.out.trans hq3)
                clear m3 hm3 hq3 kx ky
                go_wp2_with fail
                go_roundw
                case rel => exact ⟨m + 1 + 1, by omega, by go_num, HA2, HQ3⟩
                case measure => simp [intOf]; omega
              · have hxy : x = y := by simpa using hb2
                have hno : ¬ y < x := fun h => by rw [hxy] at h; exact List.lt_irrefl y h
                clear hxy
                have HF : Hid (¬ namesOk ls) := Lib.hid (HNo.out (fun h => by
                  have h1 := h.2 (by omega)
                  rw [HX.out, show m + 1 - 1 = m by omega, HY.out] at h1
                  exact hno h1))
                clear HNo hno
                go_wp2_with fail
                refine (HN1.out _).mono ?_
                rintro e w2 ⟨rfl, rfl⟩
                go_upto_region 5 with (fail)
                refine wp_region_q (by kernel_rfl) (by kernel_rfl) ?_
                (repeat (go_big_quiet_step ((go_at_call 85; exact calls_q (HS1.out _)))))
                refine wpQuiet_nil ?_
                rintro w3 ⟨m3, hm3⟩
                have hq3 : Q w2 w3 := by rw [hm3]; exact m3.le
                have HQ3 := Lib.hid (HQ.out.trans hq3)
                clear m3 hm3 hq3 kx ky
                go_wp2_with fail
                go_ret
                exact ⟨⟨false, rfl, by simp [HF.out]⟩, HQ3.out⟩
            · have hno : ¬ y < x := fun h => List.lt_irrefl _ (List.lt_trans h ((blw_lt x y).1 hb1))
              have HF : Hid (¬ namesOk ls) := Lib.hid (HNo.out (fun h => by
                have h1 := h.2 (by omega)
                rw [HX.out, show m + 1 - 1 = m by omega, HY.out] at h1
                exact hno h1))
              clear HNo hno
              go_wp2_with fail
              refine (HN1.out _).mono ?_
              rintro e w2 ⟨rfl, rfl⟩
              go_upto_region 5 with (fail)
              refine wp_region_q (by kernel_rfl) (by kernel_rfl) ?_
              (repeat (go_big_quiet_step ((go_at_call 85; exact calls_q (HS1.out _)))))
              refine wpQuiet_nil ?_
              rintro w3 ⟨m3, hm3⟩
              have hq3 : Q w2 w3 := by rw [hm3]; exact m3.le
              have HQ3 := Lib.hid (HQ.out.trans hq3)
              clear m3 hm3 hq3 kx ky
              go_wp2_with fail
              go_ret
              exact ⟨⟨false, rfl, by simp [HF.out]⟩, HQ3.out⟩
        · have q1 : (SX == x) = false := by simpa using hsx
          have HF : Hid (¬ namesOk ls) := Lib.hid (HNo.out (fun h => by have h1 := h.1; rw [HX.out, ← HK.out] at h1; exact hsx h1.2))
          clear HNo HK hsx
          go_wp2_with fail
          refine (HN1.out _).mono ?_
          rintro e w2 ⟨rfl, rfl⟩
          go_upto_region 5 with (fail)
          refine wp_region_q (by kernel_rfl) (by kernel_rfl) ?_
          (repeat (go_big_quiet_step ((go_at_call 85; exact calls_q (HS1.out _)))))
          refine wpQuiet_nil ?_
          rintro w3 ⟨m3, hm3⟩
          have hq3 : Q w2 w3 := by rw [hm3]; exact m3.le
          have HQ3 := Lib.hid (HQ.out.trans hq3)
          clear m3 hm3 hq3 kx
          go_wp2_with fail
          go_ret
          exact ⟨⟨false, rfl, by simp [HF.out]⟩, HQ3.out⟩
    · obtain rfl : k = ls.length := by omega
      clear hlt
      by_cases h0 : ls.length = 0
      · have HF : Hid (¬ namesOk ls) := Lib.hid (fun h => h.1 (List.eq_nil_of_length_eq_zero h0))
        have h0i : ¬ 0 < (ls.length : Int) := by omega
        clear h0
        go_wp2_with fail
        go_ret
        exact ⟨⟨_, rfl, by simp only [HF.out, iff_false, decide_eq_true_eq]; omega⟩, HQ.out⟩
      · have HF : Hid (namesOk ls) := Lib.hid ⟨fun e => h0 (by rw [e]; rfl), HA.out⟩
        have h0i : 0 < (ls.length : Int) := by omega
        clear h0
        go_wp2_with fail
        go_ret
        exact ⟨⟨_, rfl, by simp only [HF.out, iff_true, decide_eq_true_eq]; omega⟩, HQ.out⟩
end Go.Proofs.YtmmoenbmgcplkaaGreatDoor
set_option linter.unusedVariables false
set_option linter.unusedSimpArgs false
namespace Go.Proofs.YtmmoenbmgcplkaaGreatDoor
open Go Go.RowKit
theorem okW_nat (b : UInt8) : okW b = true ↔ (33 ≤ b.toNat ∧ b.toNat ≤ 126 ∧ b.toNat ≠ 47 ∧ b.toNat ≠ 44 ∧ b.toNat ≠ 61) := by
  have key : ∀ n : Fin 256, okW n.val.toUInt8 = true ↔ (33 ≤ n.val.toUInt8.toNat ∧ n.val.toUInt8.toNat ≤ 126 ∧ n.val.toUInt8.toNat ≠ 47 ∧ n.val.toUInt8.toNat ≠ 44 ∧ n.val.toUInt8.toNat ≠ 61) := by decide +kernel
  have := key ⟨b.toNat, b.toNat_lt⟩
  simpa using this
set_option maxRecDepth 100000 in
set_option maxHeartbeats 4000000 in
theorem RWord_any (s : List UInt8) (w : World) (hl : s.length ≤ 100000000) : Calls Tryz.prog 49 #[.string ⟨s.toArray⟩] w fun e w' => e = .returned (.bool (wordL s)) ∧ w' = w := by
  go_enter Tryz.func49, Tryz.ntmps49
  go_wp2_with fail
  go_loopw [3] (fun i wr => ∃ k : Nat, k ≤ s.length ∧ i = .int .i64 (k : Int) ∧ Hid ((s.take k).all okW = true) ∧ wr = w) (fun i _ => s.length - (intOf i).toNat)
  case atStart => exact ⟨0, by omega, rfl, Lib.hid (by simp), rfl⟩
  case round =>
    obtain ⟨k, hk, rfl, HA, rfl⟩ := hrel
    by_cases hlt : k < s.length
    · have g1 : decide (k < s.length) = true := by simpa using hlt
      have HSN := Lib.hid (all_snocW s k hlt okW)
      have HB := Lib.hid (fun h => all_bad (p := okW) hlt h)
      obtain ⟨b, hgb⟩ : ∃ b, gB s k = b := ⟨_, rfl⟩
      rw [hgb] at HSN HB
      have hok := okW_nat b
      have hok2 : okW b = false ↔ ¬ (33 ≤ b.toNat ∧ b.toNat ≤ 126 ∧ b.toNat ≠ 47 ∧ b.toNat ≠ 44 ∧ b.toNat ≠ 61) := by rw [← hok]; simp
      have hb8 := b.toNat_lt
      have HOK := Lib.hid hok
      have HOK2 := Lib.hid hok2
      clear hok hok2
      have hcs : ((b.toNat : Int) < 33) ∨ ((126 : Int) < b.toNat) ∨ ((b.toNat : Int) = 47) ∨ ((b.toNat : Int) = 44) ∨ ((b.toNat : Int) = 61) ∨ ((33 : Int) ≤ b.toNat ∧ (b.toNat : Int) ≤ 126 ∧ (b.toNat : Int) ≠ 47 ∧ (b.toNat : Int) ≠ 44 ∧ (b.toNat : Int) ≠ 61) := by omega
      rcases hcs with h | h | h | h | h | ⟨h, h2, h3, h4, h5⟩
      · have HF : Hid (wordL s = false) := Lib.hid (by unfold wordL; rw [HB.out (HOK2.out.2 (by omega))]; rfl)
        have q1 : decide ((b.toNat : Int) < 33) = true := by simp; omega
        clear HOK HOK2 HSN HB HA
        go_wp2_with fail
        go_ret
        exact ⟨by rw [HF.out]; rfl, rfl⟩
      · have HF : Hid (wordL s = false) := Lib.hid (by unfold wordL; rw [HB.out (HOK2.out.2 (by omega))]; rfl)
        have q1 : decide ((b.toNat : Int) < 33) = false := by simp; omega
        have q2 : decide ((126 : Int) < (b.toNat : Int)) = true := by simp; omega
        clear HOK HOK2 HSN HB HA
        go_wp2_with fail
        go_ret
        exact ⟨by rw [HF.out]; rfl, rfl⟩
      all_goals
        have q1 : decide ((b.toNat : Int) < 33) = false := by simp; omega
        have q2 : decide ((126 : Int) < (b.toNat : Int)) = false := by simp; omega
      · have HF : Hid (wordL s = false) := Lib.hid (by unfold wordL; rw [HB.out (HOK2.out.2 (by omega))]; rfl)
        have q3 : ((b.toNat : Int) == 47) = true := by rw [beq_iff_eq]; omega
        clear HOK HOK2 HSN HB HA
        go_wp2_with fail
        go_ret
        exact ⟨by rw [HF.out]; rfl, rfl⟩
      · have HF : Hid (wordL s = false) := Lib.hid (by unfold wordL; rw [HB.out (HOK2.out.2 (by omega))]; rfl)
        have q3 : ((b.toNat : Int) == 47) = false := by rw [beq_eq_false_iff_ne]; omega
        have q4 : ((b.toNat : Int) == 44) = true := by rw [beq_iff_eq]; omega
        clear HOK HOK2 HSN HB HA
        go_wp2_with fail
        go_ret
        exact ⟨by rw [HF.out]; rfl, rfl⟩
      · have HF : Hid (wordL s = false) := Lib.hid (by unfold wordL; rw [HB.out (HOK2.out.2 (by omega))]; rfl)
        have q3 : ((b.toNat : Int) == 47) = false := by rw [beq_eq_false_iff_ne]; omega
        have q4 : ((b.toNat : Int) == 44) = false := by rw [beq_eq_false_iff_ne]; omega
        have q5 : ((b.toNat : Int) == 61) = true := by rw [beq_iff_eq]; omega
        clear HOK HOK2 HSN HB HA
        go_wp2_with fail
        go_ret
        exact ⟨by rw [HF.out]; rfl, rfl⟩
      · have HA2 : Hid ((s.take (k + 1)).all okW = true) := Lib.hid (by rw [HSN.out, HA.out, HOK.out.2 (by omega)]; rfl)
        have q3 : ((b.toNat : Int) == 47) = false := by rw [beq_eq_false_iff_ne]; omega
        have q4 : ((b.toNat : Int) == 44) = false := by rw [beq_eq_false_iff_ne]; omega
        have q5 : ((b.toNat : Int) == 61) = false := by rw [beq_eq_false_iff_ne]; omega
        clear HOK HOK2 HSN HB h3 h4 h5
        go_wp2_with fail
        go_roundw
        case rel => exact ⟨k + 1, by omega, by go_num, HA2, trivial⟩
        case measure => simp [intOf]; omega
    · obtain rfl : k = s.length := by omega
      have hA := HA.out
      rw [List.take_length] at hA
      have HR : Hid (wordL s = !s.isEmpty) := Lib.hid (by unfold wordL; rw [hA]; rfl)
      clear hA HA hlt
      rcases hE : s.isEmpty with _ | _
      · rw [hE] at HR
        go_wp2_with fail
        go_ret
        refine ⟨?_, rfl⟩
        rw [HR.out]
        first | rfl | (show Ending.returned (.bool _) = .returned (.bool true); simp [bne, hE])
      · rw [hE] at HR
        go_wp2_with fail
        go_ret
        refine ⟨?_, rfl⟩
        rw [HR.out]
        first | rfl | (show Ending.returned (.bool _) = .returned (.bool false); simp [bne, hE])
end Go.Proofs.YtmmoenbmgcplkaaGreatDoor
set_option linter.unusedVariables false
set_option linter.unusedSimpArgs false
namespace Go.Proofs.YtmmoenbmgcplkaaGreatDoor
open Go Go.RowKit
theorem RScope_any (st rg : List UInt8) (w : World) (h1 : st.length ≤ 100000000) (h2 : rg.length ≤ 100000000) : Calls Tryz.prog 43 #[.string ⟨st.toArray⟩, .string ⟨rg.toArray⟩] w fun e w' => e = .returned (.string ⟨(scopeL st rg).toArray⟩) ∧ w' = w := by
  obtain ⟨m, hm⟩ : ∃ m : Nat, min (8 : Int) (st.length : Int) = (m : Int) := ⟨min 8 st.length, by omega⟩
  have hms : m ≤ st.length := by omega
  have ht : sub st 0 m = st.take 8 := by
    rw [sub_zero0]
    rcases Nat.lt_or_ge st.length 8 with h | h
    · rw [List.take_of_length_le (by omega), List.take_of_length_le (by omega)]
    · rw [show m = 8 by omega]
  have HT := Lib.hid ht
  have hsl := length_sub st 0 m
  have hsl2 : (sub st 0 m).length ≤ 100000000 := by omega
  clear ht hsl
  go_enter Tryz.func43, Tryz.ntmps43
  go_wp2_with fail
  go_ret
  refine ⟨?_, rfl⟩
  show Ending.returned (.string _) = _
  unfold scopeL awsL
  rw [← HT.out]
  simp
theorem text_plain (st rg c : List UInt8) : textL st rg c = (methodL ++ [10]) ++ st ++ [10] ++ scopeL st rg ++ [10] ++ hexL (sha c) := by
  unfold textL
  rw [join_cons, join_cons, join_cons, join_one]
  simp
set_option maxHeartbeats 1000000 in
theorem RText_any (st rg c : List UInt8) (w : World) (h1 : st.length ≤ 100000000) (h2 : rg.length ≤ 100000000) (h3 : c.length ≤ 140737488355328) : Calls Tryz.prog 17 #[.string ⟨st.toArray⟩, .string ⟨rg.toArray⟩, .string ⟨c.toArray⟩] w fun e w' => e = .returned (.string ⟨(textL st rg c).toArray⟩) ∧ Q w w' := by
  have hsc := scopeL_len st rg
  have HSc := Lib.hid (fun W => RScope_any st rg W h1 h2)
  have HSh := Lib.hid (fun W => Sum256R_any c W (by omega))
  have hhl : (sha c).length ≤ 140737488355328 := by rw [sha_length]; omega
  have HHx := Lib.hid (fun W => RHex_any (sha c) W (by rw [sha_length]; omega))
  have hxl := hexsha_len c
  have HT := Lib.hid (text_plain st rg c)
  generalize hexL (sha c) = X at HHx hxl HT
  generalize sha c = S at HHx HSh hhl
  generalize scopeL st rg = SC at HSc hsc HT
  go_enter Tryz.func17, Tryz.ntmps17
  go_wp2_with fail
  refine (HSc.out _).mono ?_
  rintro e w1 ⟨rfl, rfl⟩
  go_wp2_with fail
  refine (HSh.out _).mono ?_
  rintro e w2 ⟨rfl, hq2⟩
  go_wp2_with fail
  refine (HHx.out _).mono ?_
  rintro e w3 ⟨rfl, hq3⟩
  have HQ3 := Lib.hid (hq2.trans hq3)
  clear hq2 hq3
  go_wp2_with fail
  go_ret
  refine ⟨?_, HQ3.out⟩
  rw [HT.out]
  show Ending.returned (.string _) = _
  unfold methodL
  simp
set_option maxRecDepth 100000 in
set_option maxHeartbeats 1000000 in
theorem RKey_any (secret day rg : List UInt8) (w : World) (h1 : secret.length ≤ 100000000) (h2 : day.length ≤ 100000000) (h3 : rg.length ≤ 100000000) : Calls Tryz.prog 19 #[.string ⟨secret.toArray⟩, .string ⟨day.toArray⟩, .string ⟨rg.toArray⟩] w fun e w' => e = .returned (.string ⟨(keyL secret day rg).toArray⟩) ∧ Q w w' := by
  have hK : keyL secret day rg = mac (mac (mac (mac ([65, 87, 83, 52] ++ secret) day) rg) [115, 51]) [97, 119, 115, 52, 95, 114, 101, 113, 117, 101, 115, 116] := rfl
  have HK := Lib.hid hK
  have HM1 := Lib.hid (fun W => MACR_any ([65, 87, 83, 52] ++ secret) day W (by omega) (by simp; omega))
  have hl1 := mac_length ([65, 87, 83, 52] ++ secret) day
  clear hK
  generalize mac ([65, 87, 83, 52] ++ secret) day = M1 at HM1 hl1 HK
  have HM2 := Lib.hid (fun W => MACR_any M1 rg W (by omega) (by omega))
  have hl2 := mac_length M1 rg
  generalize mac M1 rg = M2 at HM2 hl2 HK
  have HM3 := Lib.hid (fun W => MACR_any M2 [115, 51] W (by decide) (by omega))
  have hl3 := mac_length M2 [115, 51]
  generalize mac M2 [115, 51] = M3 at HM3 hl3 HK
  have HM4 := Lib.hid (fun W => MACR_any M3 [97, 119, 115, 52, 95, 114, 101, 113, 117, 101, 115, 116] W (by decide) (by omega))
  generalize mac M3 [97, 119, 115, 52, 95, 114, 101, 113, 117, 101, 115, 116] = M4 at HM4 HK
  simp only [List.cons_append, List.nil_append] at HM1
  clear hl1 hl2 hl3
  go_enter Tryz.func19, Tryz.ntmps19
  go_wp2_with fail
  refine (HM1.out _).mono ?_
  rintro e w2 ⟨rfl, hq2⟩
  go_wp2_with fail
  refine (HM2.out _).mono ?_
  rintro e w3 ⟨rfl, hq3⟩
  go_wp2_with fail
  refine (HM3.out _).mono ?_
  rintro e w4 ⟨rfl, hq4⟩
  go_wp2_with fail
  refine (HM4.out _).mono ?_
  rintro e w5 ⟨rfl, hq5⟩
  have HQ5 := Lib.hid (((hq2.trans hq3).trans hq4).trans hq5)
  clear hq2 hq3 hq4 hq5
  go_wp2_with fail
  go_ret
  rw [HK.out]
  exact ⟨rfl, HQ5.out⟩
set_option maxHeartbeats 1000000 in
theorem RSignature_any (secret st rg c : List UInt8) (w : World) (h0 : secret.length ≤ 100000000) (h1 : st.length ≤ 100000000) (h2 : rg.length ≤ 100000000) (h3 : c.length ≤ 140737488355328) :
    Calls Tryz.prog 52 #[.string ⟨secret.toArray⟩, .string ⟨st.toArray⟩, .string ⟨rg.toArray⟩, .string ⟨c.toArray⟩] w fun e w' => e = .returned (.string ⟨(sigL secret st rg c).toArray⟩) ∧ Q w w' := by
  obtain ⟨m, hm⟩ : ∃ m : Nat, min (8 : Int) (st.length : Int) = (m : Int) := ⟨min 8 st.length, by omega⟩
  have hms : m ≤ st.length := by omega
  have ht : sub st 0 m = st.take 8 := by
    rw [sub_zero0]
    rcases Nat.lt_or_ge st.length 8 with h | h
    · rw [List.take_of_length_le (by omega), List.take_of_length_le (by omega)]
    · rw [show m = 8 by omega]
  have hsl := length_sub st 0 m
  have hsl2 : (sub st 0 m).length ≤ 100000000 := by omega
  have HK := Lib.hid (fun W => RKey_any secret (sub st 0 m) rg W h0 hsl2 h2)
  have HT := Lib.hid (fun W => RText_any st rg c W h1 h2 h3)
  have htl := textL_len st rg c h1 h2
  have hkl : (keyL secret (sub st 0 m) rg).length = 32 := by unfold keyL keyN; exact mac_length _ _
  have HM := Lib.hid (fun W => MACR_any (keyL secret (sub st 0 m) rg) (textL st rg c) W (by omega) (by omega))
  have hml := mac_length (keyL secret (sub st 0 m) rg) (textL st rg c)
  have HH := Lib.hid (fun W => RHex_any (mac (keyL secret (sub st 0 m) rg) (textL st rg c)) W (by omega))
  have HR : Hid (sigL secret st rg c = hexL (mac (keyL secret (sub st 0 m) rg) (textL st rg c))) := Lib.hid (by unfold sigL; rw [ht])
  generalize mac (keyL secret (sub st 0 m) rg) (textL st rg c) = M at HM HH HR hml
  generalize keyL secret (sub st 0 m) rg = K at HK HM hkl
  generalize textL st rg c = TX at HT HM htl
  clear ht hsl hkl hml htl
  go_enter Tryz.func52, Tryz.ntmps52
  go_wp2_with fail
  refine (HK.out _).mono ?_
  rintro e w2 ⟨rfl, hq2⟩
  go_wp2_with fail
  refine (HT.out _).mono ?_
  rintro e w3 ⟨rfl, hq3⟩
  go_wp2_with fail
  refine (HM.out _).mono ?_
  rintro e w4 ⟨rfl, hq4⟩
  go_wp2_with fail
  refine (HH.out _).mono ?_
  rintro e w5 ⟨rfl, hq5⟩
  have HQ5 := Lib.hid (((hq2.trans hq3).trans hq4).trans hq5)
  clear hq2 hq3 hq4 hq5
  go_wp2_with fail
  go_ret
  rw [HR.out]
  exact ⟨rfl, HQ5.out⟩
end Go.Proofs.YtmmoenbmgcplkaaGreatDoor
set_option linter.unusedVariables false
set_option linter.unusedSimpArgs false
namespace Go.Proofs.YtmmoenbmgcplkaaGreatDoor
open Go Go.RowKit
def SeenT (s : List UInt8) (k q : Nat) : Prop := (∀ j, j < k → badC (gB s j) = false) ∧ ((q = s.length ∧ ∀ j, j < k → gB s j ≠ 63) ∨ (q < k ∧ gB s q = 63 ∧ ∀ j, j < q → gB s j ≠ 63))
theorem SeenT.at {s : List UInt8} {q : Nat} (h : SeenT s s.length q) : s.findIdx? badC = none ∧ AtC 63 s q := by
  refine ⟨find_none s h.1, ?_⟩
  rcases h.2 with ⟨rfl, h2⟩ | ⟨h1, h2, h3⟩
  · exact ⟨Nat.le_refl _, h2, fun h => by omega⟩
  · exact ⟨by omega, h3, fun _ => h2⟩
theorem SeenT.le {s : List UInt8} {k q : Nat} (h : SeenT s k q) (hk : k ≤ s.length) : q ≤ s.length := by
  rcases h.2 with ⟨rfl, _⟩ | ⟨h1, _⟩ <;> omega
theorem SeenT.next {s : List UInt8} {k q : Nat} (h : SeenT s k q) (hk : k < s.length) (hb : badC (gB s k) = false) (hn : gB s k ≠ 63 ∨ q ≠ s.length) : SeenT s (k + 1) q := by
  refine ⟨fun j hj => ?_, ?_⟩
  · by_cases e : j = k
    · subst e; exact hb
    · exact h.1 j (by omega)
  · rcases h.2 with ⟨h1, h2⟩ | ⟨h1, h2, h3⟩
    · refine .inl ⟨h1, fun j hj => ?_⟩
      by_cases e : j = k
      · subst e; rcases hn with h | h
        · exact h
        · exact absurd h1 h
      · exact h2 j (by omega)
    · exact .inr ⟨by omega, h2, h3⟩
theorem SeenT.first {s : List UInt8} {k : Nat} (h : SeenT s k s.length) (hk : k < s.length) (hb : badC (gB s k) = false) (hc : gB s k = 63) : SeenT s (k + 1) k := by
  refine ⟨fun j hj => ?_, .inr ⟨by omega, hc, fun j hj => ?_⟩⟩
  · by_cases e : j = k
    · subst e; exact hb
    · exact h.1 j (by omega)
  · rcases h.2 with ⟨_, h2⟩ | ⟨h1, _⟩
    · exact h2 j hj
    · omega
theorem sub_zero (s : List UInt8) (q : Nat) : sub s 0 q = s.take q := by simp [sub]
set_option maxRecDepth 100000 in
set_option maxHeartbeats 4000000 in
theorem RTarget_any (s : List UInt8) (w : World) (hl : s.length ≤ 100000000) :
    Calls Tryz.prog 36 #[.string ⟨s.toArray⟩] w (TgtPost s w) := by
  by_cases hh : s.head? = some 47
  case neg =>
    have HT : Hid (tgtL s = ([], [], 53, 0)) := Lib.hid (by unfold tgtL; rw [if_neg hh])
    by_cases hz : s.length = 0
    · have hE : s.isEmpty = true := by simpa using List.eq_nil_of_length_eq_zero hz
      clear hh hz
      go_enter Tryz.func36, Tryz.ntmps36
      go_wp2_with fail
      ((try simp only [Exit.inBlock, Exit.then]); refine bodyPost_ret (results_tmp4 rfl _ _ _) rfl ?_)
      unfold TgtPost
      rw [HT.out]
      exact ⟨.slice none 0 0, rfl, OwnU.nil _ _, Q.refl _⟩
    · have hE : s.isEmpty = false := by
        rcases s with _ | ⟨x, r⟩
        · exact absurd rfl hz
        · rfl
      have h0 : ¬ ((gB s 0).toNat : Int) = 47 := by
        intro h
        have : gB s 0 = 47 := UInt8.toNat_inj.1 (show (gB s 0).toNat = 47 by omega)
        apply hh
        rcases s with _ | ⟨x, r⟩
        · exact absurd rfl hz
        · simp [gB] at this; simp [this]
      have h0e : (((gB s 0).toNat : Int) == 47) = false := by simpa using h0
      have hzl : 0 < s.length := by omega
      clear hh
      go_enter Tryz.func36, Tryz.ntmps36
      go_wp2_with fail
      ((try simp only [Exit.inBlock, Exit.then]); refine bodyPost_ret (results_tmp4 rfl _ _ _) rfl ?_)
      unfold TgtPost
      rw [HT.out]
      exact ⟨.slice none 0 0, rfl, OwnU.nil _ _, Q.refl _⟩
  case pos =>
    have hE : s.isEmpty = false := by
      rcases s with _ | ⟨x, r⟩
      · simp at hh
      · rfl
    have hzl : 0 < s.length := by
      rcases s with _ | ⟨x, r⟩
      · simp at hh
      · simp
    have h0 : ((gB s 0).toNat : Int) = 47 := by
      rcases s with _ | ⟨x, r⟩
      · simp at hh
      · simp at hh; subst hh; rfl
    have h0e : (((gB s 0).toNat : Int) == 47) = true := by simpa using h0
    have HH := Lib.hid hh
    clear hh h0
    go_enter Tryz.func36, Tryz.ntmps36
    go_wp2_with fail
    clear h0e hE
    go_loopw [6, 7] (fun qv i wr => ∃ k q : Nat, k ≤ s.length ∧ qv = .int .i64 (q : Int) ∧ i = .int .i64 (k : Int) ∧ q ≤ s.length ∧ Hid (SeenT s k q) ∧ wr = w) (fun _ i _ => s.length - (intOf i).toNat)
    case atStart => exact ⟨0, s.length, by omega, rfl, rfl, by omega, Lib.hid ⟨fun j h => by omega, .inl ⟨rfl, fun j h => by omega⟩⟩, rfl⟩
    case round =>
      obtain ⟨k, q, hk, rfl, rfl, hq, HS, rfl⟩ := hrel
      by_cases hlt : k < s.length
      · have g1 : decide (k < s.length) = true := by simpa using hlt
        rcases hb : badC (gB s k) with _ | _
        · obtain ⟨b, hgb⟩ : ∃ b, gB s k = b := ⟨_, rfl⟩
          have HB := Lib.hid hb
          have HGB := Lib.hid hgb
          unfold badC at hb
          rw [hgb] at hb
          simp only [Bool.or_eq_false_iff, decide_eq_false_iff_not, beq_eq_false_iff_ne] at hb
          obtain ⟨⟨b1, b2⟩, b3⟩ := hb
          have b1' : ¬ ((b.toNat : Int) < 33) := by omega
          have b2' : ¬ ((126 : Int) < (b.toNat : Int)) := by omega
          have b3' : ¬ (b.toNat : Int) = 35 := fun h => b3 (UInt8.toNat_inj.mp (show b.toNat = 35 by omega))
          have b3e : ((b.toNat : Int) == 35) = false := by simpa using b3'
          by_cases hc : b = 63
          · have c1 : ((b.toNat : Int) == 63) = true := by rw [hc]; rfl
            by_cases hqe : q = s.length
            · have HN : Hid (SeenT s (k + 1) k) := Lib.hid (by have h := HS.out; rw [hqe] at h; exact h.first hlt HB.out (by rw [HGB.out, hc]))
              clear hc b1 b2 b3 b3'
              subst hqe
              go_wp2_with fail
              go_roundw
              case rel => exact ⟨k + 1, k, by omega, rfl, by go_num, by omega, HN, trivial⟩
              case measure => simp [intOf]; omega
            · have HN : Hid (SeenT s (k + 1) q) := Lib.hid (HS.out.next hlt HB.out (.inr hqe))
              have hq1 : (q == s.length) = false := by simpa using hqe
              have hq2 : ((q : Int) == (s.length : Int)) = false := by rw [beq_eq_false_iff_ne]; omega
              have hq3 : ¬ (q : Int) = (s.length : Int) := by omega
              clear hc b1 b2 b3 b3'
              go_wp2_with fail
              go_roundw
              case rel => exact ⟨k + 1, q, by omega, rfl, by go_num, by omega, HN, trivial⟩
              case measure => simp [intOf]; omega
          · have c1 : ((b.toNat : Int) == 63) = false := by
              rw [beq_eq_false_iff_ne]; intro h; exact hc (UInt8.toNat_inj.1 (show b.toNat = 63 by omega))
            have c2 : ¬ (b.toNat : Int) = 63 := by simpa using c1
            have HN : Hid (SeenT s (k + 1) q) := Lib.hid (HS.out.next hlt HB.out (.inl (by rw [HGB.out]; exact hc)))
            clear hc b1 b2 b3
            go_wp2_with fail
            go_roundw
            case rel => exact ⟨k + 1, q, by omega, rfl, by go_num, by omega, HN, trivial⟩
            case measure => simp [intOf]; omega
        · have HF : Hid (tgtL s = ([], [], 53, (k : Int))) := Lib.hid (by unfold tgtL; rw [if_pos HH.out, find_take s k hlt HS.out.1 hb])
          obtain ⟨b, hgb⟩ : ∃ b, gB s k = b := ⟨_, rfl⟩
          rw [hgb] at hb
          have hc : (b.toNat : Int) < 33 ∨ (¬ (b.toNat : Int) < 33 ∧ (126 : Int) < (b.toNat : Int)) ∨ (¬ (b.toNat : Int) < 33 ∧ ¬ (126 : Int) < (b.toNat : Int) ∧ ((b.toNat : Int) == 35) = true) := by
            unfold badC at hb
            simp only [Bool.or_eq_true, decide_eq_true_eq, beq_iff_eq] at hb
            rcases hb with (h | h) | h
            · left; omega
            · right; left; omega
            · right; right; subst h; decide
          clear hb
          rcases hc with hc | ⟨h1, hc⟩ | ⟨h1, h2, hc⟩
          all_goals
            go_wp2_with fail
            all_goals
              ((try simp only [Exit.inBlock, Exit.then]); refine bodyPost_ret (results_tmp4 rfl _ _ _) rfl ?_)
              unfold TgtPost
              rw [HF.out]
              exact ⟨.slice none 0 0, rfl, OwnU.nil _ _, Q.refl _⟩
      · obtain rfl : k = s.length := by omega
        have HAt := Lib.hid HS.out.at
        clear HS hlt hk
        have hlen := length_sub s 0 q
        have hrl : (sub s 0 q).length ≤ 100000000 := by omega
        have HD := Lib.hid (fun W => RDecode_any (sub s 0 q) W hrl)
        clear hlen hrl
        rcases hd : decR (sub s 0 q) with ⟨pt, _ | kb⟩
        · have hrd : rdecOut (sub s 0 q) = (pt, -1) := by unfold rdecOut; rw [hd]
          rw [hrd] at HD
          have HR : Hid (tgtL s = match remT s (q + 1) [] with | (some b, _) => ([], [], 52, (b : Int)) | (none, ps) => (pt, ps, 0, 0)) := Lib.hid (by
            have h := rtgt_rest HH.out HAt.out.1 HAt.out.2 (by rw [← sub_zero, hd])
            rw [← sub_zero, hd] at h; exact h)
          clear hrd hd
          go_wp2_with fail
          refine (HD.out _).mono ?_
          rintro e W2 ⟨rfl, hq2⟩
          have HQ2 := Lib.hid hq2
          clear hq2 HD
          go_wp2_with fail
          clear HAt
          go_loopw [10, 11] (fun v i wr => ∃ (a : Nat) (out : List PairD), a ≤ s.length + 1 ∧ i = .int .i64 (a : Int) ∧ Hid (OwnU W2 wr v out) ∧ Hid (Q W2 wr) ∧ Hid (remT s a out = remT s (q + 1) []) ∧ Hid (out.length ≤ a)) (fun _ i _ => s.length + 2 - (intOf i).toNat)
          case atStart => exact ⟨q + 1, [], by omega, by go_num, Lib.hid (OwnU.nil _ _), Lib.hid (Q.refl _), Lib.hid rfl, Lib.hid (by simp)⟩
          case round =>
            clear hq
            obtain ⟨a, out, ha, rfl, HO, HQ, HM, HL⟩ := hrel
            by_cases hle : a ≤ s.length
            · rename World => wa
              have HAN : Hid (∀ j, a ≤ j → j < a → gB s j ≠ 38) := Lib.hid (fun j h1 h2 => by omega)
              have HEN : Hid (∀ j, a ≤ j → j < a → gB s j ≠ 61) := Lib.hid (fun j h1 h2 => by omega)
              go_upto_block 2 with (fail)
              go_loop [12] (fun i => ∃ e : Nat, a ≤ e ∧ e ≤ s.length ∧ i = .int .i64 (e : Int) ∧ Hid (∀ j, a ≤ j → j < e → gB s j ≠ 38)) (fun i => s.length - (intOf i).toNat)
              case atStart => exact ⟨a, by omega, by omega, rfl, HAN⟩
              case round =>
                clear HAN
                obtain ⟨e, hae, hes, rfl, HA⟩ := hrel
                by_cases hm : e < s.length ∧ gB s e ≠ 38
                · obtain ⟨hm1, hm2⟩ := hm
                  have c1 : ¬ ((gB s e).toNat : Int) = 38 := fun h => hm2 (UInt8.toNat_inj.1 (show (gB s e).toNat = 38 by omega))
                  have c2 : (((gB s e).toNat : Int) == 38) = false := by simpa using c1
                  have HA2 : Hid (∀ j, a ≤ j → j < e + 1 → gB s j ≠ 38) := Lib.hid (fun j h1 h2 => by
                    by_cases ej : j = e
                    · subst ej; exact hm2
                    · exact HA.out j h1 (by omega))
                  clear hm2 HO HQ HM HL HEN
                  go_wp2_with fail
                  go_round
                  case rel => exact ⟨e + 1, by omega, by omega, by go_num, HA2⟩
                  case measure => simp [intOf]; omega
                · have HE38 : Hid (e < s.length → gB s e = 38) := Lib.hid (fun h => Decidable.byContradiction fun h2 => hm ⟨h, h2⟩)
                  have hcs : ¬ (e : Int) < (s.length : Int) ∨ (e < s.length ∧ (((gB s e).toNat : Int) == 38) = true) := by
                    by_cases h : e < s.length
                    · right; exact ⟨h, by rw [HE38.out h]; rfl⟩
                    · left; omega
                  clear hm
                  rcases hcs with hge | ⟨hlt2, c38⟩
                  all_goals
                    go_upto_block 2 with (fail)
                    try clear c38
                    go_loop [13] (fun i => ∃ k : Nat, a ≤ k ∧ k ≤ e ∧ i = .int .i64 (k : Int) ∧ Hid (∀ j, a ≤ j → j < k → gB s j ≠ 61)) (fun i => e - (intOf i).toNat)
                    case atStart => exact ⟨a, by omega, by omega, rfl, HEN⟩
                    case round =>
                      clear HEN
                      obtain ⟨k, hak, hke, rfl, HB⟩ := hrel
                      by_cases hm : k < e ∧ gB s k ≠ 61
                      · obtain ⟨hm1, hm2⟩ := hm
                        have hks : k < s.length := by omega
                        have c1 : ¬ ((gB s k).toNat : Int) = 61 := fun h => hm2 (UInt8.toNat_inj.1 (show (gB s k).toNat = 61 by omega))
                        have c2 : (((gB s k).toNat : Int) == 61) = false := by simpa using c1
                        have HB2 : Hid (∀ j, a ≤ j → j < k + 1 → gB s j ≠ 61) := Lib.hid (fun j h1 h2 => by
                          by_cases ej : j = k
                          · subst ej; exact hm2
                          · exact HB.out j h1 (by omega))
                        clear hm2 HO HQ HM HL
                        go_wp2_with fail
                        go_round
                        case rel => exact ⟨k + 1, by omega, by omega, by go_num, HB2⟩
                        case measure => simp [intOf]; omega
                      · have HK61 : Hid (k < e → gB s k = 61) := Lib.hid (fun h => Decidable.byContradiction fun h2 => hm ⟨h, h2⟩)
                        have hcs2 : ¬ (k : Int) < (e : Int) ∨ (k < e ∧ k < s.length ∧ (((gB s k).toNat : Int) == 61) = true) := by
                          by_cases h : k < e
                          · right; exact ⟨h, by omega, by rw [HK61.out h]; rfl⟩
                          · left; omega
                        clear hm
                        by_cases hae2 : a < e
                        · have HP := Lib.hid (rem_piece (out := out) hae2 hak hke hes HA.out HE38.out HB.out HK61.out)
                          have hln : (sub s a k).length ≤ 100000000 := by have := length_sub s a k; omega
                          have HD := Lib.hid (fun W => RDecode_any (sub s a k) W hln)
                          clear hln
                          rcases hd : decR (sub s a k) with ⟨nm, _ | kb⟩
                          · have hrd : rdecOut (sub s a k) = (nm, -1) := by unfold rdecOut; rw [hd]
                            rw [hrd] at HD
                            rw [hd] at HP
                            clear hrd hd
                            by_cases hke2 : k < e
                            · have hln : (sub s (k + 1) e).length ≤ 100000000 := by have := length_sub s (k + 1) e; omega
                              have HD2 := Lib.hid (fun W => RDecode_any (sub s (k + 1) e) W hln)
                              clear hln
                              simp only [if_pos hke2] at HP
                              rcases hcs2 with hge2 | ⟨_, hks, c61⟩
                              · omega
                              go_upto_region 23 with (fail)
                              clear c61
                              rcases hd2 : decR (sub s (k + 1) e) with ⟨vl, _ | kb⟩
                              · have hrd : rdecOut (sub s (k + 1) e) = (vl, -1) := by unfold rdecOut; rw [hd2]
                                rw [hrd] at HD2
                                rw [hd2] at HP
                                simp only at HP
                                clear hrd hd2
                                go_wp2_with fail
                                refine (HD.out _).mono ?_
                                rintro e' W3 ⟨rfl, hq3⟩
                                have HO3 := Lib.hid (HO.out.q hq3)
                                have HQ3 := Lib.hid (HQ.out.trans hq3)
                                clear hq3 HO HQ HD
                                go_wp2_with fail
                                refine (HD2.out _).mono ?_
                                rintro e' W4 ⟨rfl, hq4⟩
                                obtain ⟨N7, hN7⟩ : ∃ N, W3.heap.size = N := ⟨_, rfl⟩
                                have hpb : PB W4 N7 (nm, []) := by rw [← hN7]; exact hq4.block (heap_alloc_new W3 _)
                                have hq34 : Q W3 W4 := ((Q.refl W3).alloc _).trans hq4
                                have HO4 := Lib.hid (HO3.out.q hq34)
                                have HQ4 := Lib.hid (HQ3.out.trans hq34)
                                have hNE : ∀ g, u10.ownBlock = some g → g ≠ N7 := fun g hg ee => by have h1 := (HO3.out.block hg).2.1; omega
                                have HNE := Lib.hid hNE
                                have hW2N : W2.heap.size ≤ N7 := by rw [← hN7]; exact HQ3.out.size
                                have HPB4 := Lib.hid hpb
                                have cz := hpb.c1
                                have fz := hpb.f (i := 1)
                                rw [hN7]
                                clear hq4 hq34 hpb hNE hN7 HO3 HQ3 HD2
                                go_upto_region 33 with (fail)
                                obtain ⟨WY, hWY⟩ : ∃ W, W4.setCell ⟨N7, 1, none⟩ (.string ⟨vl.toArray⟩) = W := ⟨_, rfl⟩
                                have HPB : Hid (PB WY N7 (nm, vl)) := Lib.hid (by rw [← hWY]; exact HPB4.out.set1)
                                have HOX : Hid (OwnU W2 WY u10 out) := Lib.hid (by
                                  rw [← hWY]
                                  exact HO4.out.g (gb_set (b := W4) (g := N7) ⟨rfl, rfl, rfl, Nat.le_refl _, fun _ _ _ => rfl⟩ 1 _) (fun g hg ee => HNE.out g hg (by injection ee with ee; exact ee.symm)))
                                have HQX : Hid (Q W2 WY) := Lib.hid (by rw [← hWY]; exact HQ4.out.setNew hW2N _)
                                rw [hWY]
                                clear hWY cz fz HO4 HQ4 HPB4
                                iterate 4 go_step
                                refine wpList_load_row rfl 37 (.tmp 16) rfl N7 rfl _ _ _ _ HPB.out Tryz.underlying37 rfl infoP ?_
                                simp only [pairL, Act.put, List.setIfInBounds_toArray, List.set_cons_succ, List.set_cons_zero]
                                iterate 3 go_step
                                refine wpList_append_u rfl (.tmp 141) (.tmp 143) rfl W2 WY u10 out (nm, vl) rfl HOX.out rfl HQX.out.size (by have := HL.out; omega) ?_
                                intro v9 w9 ho9 hg9
                                have hq9 : Q W2 w9 := gb_q_own hg9 HQX.out (fun b hb => (HOX.out.block hb).1)
                                have HO9 := Lib.hid ho9
                                have HQ9 := Lib.hid hq9
                                clear ho9 hg9 hq9 HOX HQX HPB
                                go_wp2_with fail
                                go_roundw
                                case rel => exact ⟨e + 1, out ++ [(nm, vl)], by omega, by go_num, HO9, HQ9, Lib.hid (by rw [← HM.out, HP.out]), Lib.hid (by have := HL.out; rw [List.length_append]; simp; omega)⟩
                                case measure => simp [intOf]; omega
                              · have hkb := decR_lt (l := sub s (k + 1) e) (k := kb) (by rw [hd2])
                                have hlk := length_sub s (k + 1) e
                                have hkb2 : kb ≤ 100000000 := by omega
                                have hrd : rdecOut (sub s (k + 1) e) = ([], (kb : Int)) := by unfold rdecOut; rw [hd2]
                                rw [hrd] at HD2
                                rw [hd2] at HP
                                simp only at HP
                                have HF : Hid (tgtL s = ([], [], 52, (k : Int) + 1 + (kb : Int))) := Lib.hid (by rw [HR.out, ← HM.out, HP.out]; simp)
                                clear hrd hd2 hkb hlk
                                go_wp2_with fail
                                refine (HD.out _).mono ?_
                                rintro e' W3 ⟨rfl, hq3⟩
                                have HQ3a := Lib.hid (HQ.out.trans hq3)
                                clear hq3 HO HQ HD
                                go_wp2_with fail
                                refine (HD2.out _).mono ?_
                                rintro e' W4 ⟨rfl, hq4⟩
                                have HQ3 := Lib.hid (HQ3a.out.trans (((Q.refl W3).alloc _).trans hq4))
                                clear hq4
                                go_wp2_with fail
                                ((try simp only [Exit.inBlock, Exit.then]); refine bodyPost_ret (results_tmp4 rfl _ _ _) rfl ?_)
                                unfold TgtPost
                                rw [HF.out]
                                exact ⟨.slice none 0 0, rfl, OwnU.nil _ _, HQ2.out.trans HQ3.out⟩
                            · simp only [if_neg hke2] at HP
                              rcases hcs2 with hge2 | ⟨hc2, _⟩
                              case inr => omega
                              go_upto_region 23 with (fail)
                              go_wp2_with fail
                              refine (HD.out _).mono ?_
                              rintro e' W3 ⟨rfl, hq3⟩
                              have HO3 := Lib.hid (HO.out.q hq3)
                              have HQ3 := Lib.hid (HQ.out.trans hq3)
                              clear hq3 HO HQ HD
                              go_upto_region 33 with (fail)
                              obtain ⟨N7, hN7⟩ : ∃ N, W3.heap.size = N := ⟨_, rfl⟩
                              obtain ⟨WY, hWY⟩ : ∃ W, W3.alloc (.cells #[.string ⟨nm.toArray⟩, .string ⟨#[]⟩] 37) = W := ⟨_, rfl⟩
                              have HPB : Hid (PB WY N7 (nm, [])) := Lib.hid (by rw [← hWY, ← hN7]; exact heap_alloc_new W3 _)
                              have hqY : Q W3 WY := by rw [← hWY]; exact (Q.refl W3).alloc _
                              have HOX : Hid (OwnU W2 WY u10 out) := Lib.hid (HO3.out.q hqY)
                              have HQX : Hid (Q W2 WY) := Lib.hid (HQ3.out.trans hqY)
                              rw [hN7, hWY]
                              clear hWY hN7 hqY HO3 HQ3
                              iterate 4 go_step
                              refine wpList_load_row rfl 37 (.tmp 16) rfl N7 rfl _ _ _ _ HPB.out Tryz.underlying37 rfl infoP ?_
                              simp only [pairL, Act.put, List.setIfInBounds_toArray, List.set_cons_succ, List.set_cons_zero]
                              iterate 3 go_step
                              refine wpList_append_u rfl (.tmp 141) (.tmp 143) rfl W2 WY u10 out (nm, []) rfl HOX.out rfl HQX.out.size (by have := HL.out; omega) ?_
                              intro v9 w9 ho9 hg9
                              have hq9 : Q W2 w9 := gb_q_own hg9 HQX.out (fun b hb => (HOX.out.block hb).1)
                              have HO9 := Lib.hid ho9
                              have HQ9 := Lib.hid hq9
                              clear ho9 hg9 hq9 HOX HQX HPB
                              go_wp2_with fail
                              go_roundw
                              case rel => exact ⟨e + 1, out ++ [(nm, [])], by omega, by go_num, HO9, HQ9, Lib.hid (by rw [← HM.out, HP.out]), Lib.hid (by have := HL.out; rw [List.length_append]; simp; omega)⟩
                              case measure => simp [intOf]; omega
                          · have hkb := decR_lt (l := sub s a k) (k := kb) (by rw [hd])
                            have hlk := length_sub s a k
                            have hkb2 : kb ≤ 100000000 := by omega
                            have hrd : rdecOut (sub s a k) = ([], (kb : Int)) := by unfold rdecOut; rw [hd]
                            rw [hrd] at HD
                            rw [hd] at HP
                            simp only at HP
                            have HF : Hid (tgtL s = ([], [], 52, (a : Int) + (kb : Int))) := Lib.hid (by rw [HR.out, ← HM.out, HP.out]; simp)
                            clear hrd hd hkb hlk
                            rcases hcs2 with hge2 | ⟨_, hks, c61⟩
                            all_goals
                              go_upto_region 23 with (fail)
                              try clear c61
                              go_wp2_with fail
                              refine (HD.out _).mono ?_
                              rintro e' W3 ⟨rfl, hq3⟩
                              have HQ3 := Lib.hid (HQ.out.trans hq3)
                              clear hq3 HO HQ HD
                              go_wp2_with fail
                              ((try simp only [Exit.inBlock, Exit.then]); refine bodyPost_ret (results_tmp4 rfl _ _ _) rfl ?_)
                              unfold TgtPost
                              rw [HF.out]
                              exact ⟨.slice none 0 0, rfl, OwnU.nil _ _, HQ2.out.trans HQ3.out⟩
                        · obtain rfl : e = a := by omega
                          have HM2 : Hid (remT s (e + 1) out = remT s (q + 1) []) := Lib.hid (by rw [← rem_empty hes HE38.out]; exact HM.out)
                          rcases hcs2 with hge2 | ⟨hc2, _⟩
                          case inr => omega
                          go_wp2_with fail
                          go_roundw
                          case rel => exact ⟨e + 1, out, by omega, by go_num, HO, HQ, HM2, Lib.hid (by have := HL.out; omega)⟩
                          case measure => simp [intOf]; omega
            · obtain rfl : a = s.length + 1 := by omega
              have HE : Hid (remT s (q + 1) [] = (none, out)) := Lib.hid (by rw [← HM.out]; unfold remT; rw [if_neg hle])
              have hge : ¬ ((s.length : Int) + 1 ≤ (s.length : Int)) := by omega
              clear HM HL ha hle
              go_wp2_with fail
              ((try simp only [Exit.inBlock, Exit.then]); refine bodyPost_ret (results_tmp4 rfl _ _ _) rfl ?_)
              unfold TgtPost
              rw [HR.out, HE.out]
              refine ⟨_, rfl, ?_, HQ2.out.trans HQ.out⟩
              refine ⟨HO.out.1, ?_⟩
              rcases HO.out.2 with h1 | ⟨g, cap, cur, hv, h1, h2⟩
              · exact .inl h1
              · exact .inr ⟨g, cap, cur, hv, by have := HQ2.out.size; omega, h2⟩
        · have hrd : rdecOut (sub s 0 q) = ([], (kb : Int)) := by unfold rdecOut; rw [hd]
          rw [hrd] at HD
          have HR : Hid (tgtL s = ([], [], 52, (kb : Int))) := Lib.hid (rtgt_path HH.out HAt.out.1 HAt.out.2 (by rw [← sub_zero, hd]))
          clear hrd hd
          go_wp2_with fail
          refine (HD.out _).mono ?_
          rintro e W2 ⟨rfl, hq2⟩
          have HQ2 := Lib.hid hq2
          clear hq2 HD
          go_wp2_with fail
          ((try simp only [Exit.inBlock, Exit.then]); refine bodyPost_ret (results_tmp4 rfl _ _ _) rfl ?_)
          unfold TgtPost
          rw [HR.out]
          exact ⟨.slice none 0 0, rfl, OwnU.nil _ _, HQ2.out⟩
end Go.Proofs.YtmmoenbmgcplkaaGreatDoor
