/- Texts of this proof, laid into one: SgY, Sja, Sjb. -/
import Derived.Test.YtmmoenbmgcplkaaGreatDoorMy20
set_option linter.unusedVariables false
set_option linter.unusedSimpArgs false
namespace Go.Proofs.YtmmoenbmgcplkaaGreatDoor
open Go Go.RowKit
theorem small_self (l : List UInt8) : (nameF l = true ∧ smL l = l) ↔ okName l = true := by
  have key : ∀ n : Fin 256, (chrF n.val.toUInt8 = true ∧ smB n.val.toUInt8 = n.val.toUInt8) ↔ chrW n.val.toUInt8 = true := by decide +kernel
  have kb : ∀ b : UInt8, (chrF b = true ∧ smB b = b) ↔ chrW b = true := fun b => by
    have := key ⟨b.toNat, b.toNat_lt⟩
    simpa using this
  have hsm : smL l = l ↔ ∀ b ∈ l, smB b = b := by
    unfold smL
    induction l with
    | nil => simp
    | cons a r ih => rw [List.map_cons]; simp [ih]
  unfold nameF okName
  rw [hsm]
  simp only [Bool.and_eq_true, List.all_eq_true]
  constructor
  · rintro ⟨⟨h1, h2⟩, h3⟩
    exact ⟨h2, fun b hb => (kb b).1 ⟨h1 b hb, h3 b hb⟩⟩
  · rintro ⟨h1, h2⟩
    exact ⟨⟨fun b hb => ((kb b).2 (h2 b hb)).1, h1⟩, fun b hb => ((kb b).2 (h2 b hb)).2⟩
set_option maxRecDepth 100000 in
set_option maxHeartbeats 4000000 in
theorem RNames_any (A : Option Addr) (n cap : Nat) (ls : List (List UInt8)) (w : World) (h : NmAt w A n ls) (hn : n ≤ 10000000) (hb : ∀ l ∈ ls, l.length ≤ 100000000) :
    Calls Tryz.prog 37 #[.slice A n cap] w (NmPost ls w) := by
  obtain rfl := h.1
  have HP := Lib.hid h
  have HB := Lib.hid hb
  have HNm := Lib.hid (fun (l : List UInt8) W (hl : l.length ≤ 100000000) => RName_any l W hl)
  have HSm := Lib.hid (fun (l : List UInt8) W (hl : l.length ≤ 100000000) => RSmall_any l W hl)
  clear h hb
  go_enter Tryz.func37, Tryz.ntmps37
  go_wp2_with fail
  go_loopw [3] (fun i wr => ∃ k : Nat, k ≤ ls.length ∧ i = .int .i64 (k : Int) ∧ Hid (∀ j, j < k → nameAt ls j) ∧ Hid (Q w wr)) (fun i _ => ls.length - (intOf i).toNat)
  case atStart => exact ⟨0, by omega, rfl, Lib.hid (fun j h => by omega), Lib.hid (Q.refl _)⟩
  case round =>
    obtain ⟨k, hk, rfl, HA, HQ⟩ := hrel
    by_cases hlt : k < ls.length
    · have g1 : decide (k < ls.length) = true := by simpa using hlt
      obtain ⟨g, off, rfl, cx⟩ := (HP.out.q HQ.out).at hlt
      have HNo : Hid (¬ nameAt ls k → ¬ namesOk ls) := Lib.hid (fun h h2 => h (h2.2 k hlt))
      have hxl : (gL ls k).length ≤ 100000000 := by rw [gL_get ls k hlt]; exact HB.out _ (List.getElem_mem hlt)
      obtain ⟨x, hx⟩ : ∃ x, gL ls k = x := ⟨_, rfl⟩
      have HX := Lib.hid hx
      rw [hx] at cx hxl
      clear hx
      rename World => wa
      have HK := Lib.hid (small_self x)
      have HN1 := Lib.hid (fun W => HNm.out x W hxl)
      have HS1 := Lib.hid (fun W => HSm.out x W hxl)
      obtain ⟨NB, hNB⟩ : ∃ b, nameF x = b := ⟨_, rfl⟩
      obtain ⟨SX, hSX⟩ : ∃ b, smL x = b := ⟨_, rfl⟩
      rw [hNB] at HN1 HK
      rw [hSX] at HS1 HK
      clear hNB hSX
      have kx : ∀ m : QW wa, m.val.cell? ⟨g, off + k, none⟩ = some (.string ⟨x.toArray⟩) := fun m => m.cell cx
      rcases NB with _ | _
      · have HF : Hid (¬ namesOk ls) := Lib.hid (HNo.out (fun h => by have h1 := h.1; rw [HX.out, ← HK.out] at h1; exact absurd h1.1 (by decide)))
        clear HNo HK
        go_wp2_with fail
        refine (HN1.out _).mono ?_
        rintro e w2 ⟨rfl, rfl⟩
        go_upto_region 5 with (fail)
        refine wp_region_q (by kernel_rfl) (by kernel_rfl) ?_
        (repeat (go_big_quiet_step ((go_at_call 85; exact calls_q (HS1.out _)))))
        refine wpQuiet_nil ?_
        rintro w3 ⟨m3, hm3⟩
        have hq3 : Q w2 w3 := by rw [hm3]; exact m3.le
        have HQ3 := Lib.hid (HQ.out.trans hq3)
        clear m3 hm3 hq3 kx
        go_wp2_with fail
        go_ret
        exact ⟨⟨false, rfl, by simp [HF.out]⟩, HQ3.out⟩
      · by_cases hsx : SX = x
        · have q1 : (SX == x) = true := by simpa using hsx
          have HOK : Hid (okName (gL ls k) = true) := Lib.hid (by rw [HX.out]; exact HK.out.1 ⟨rfl, hsx⟩)
          have HSX := Lib.hid hsx
          clear hsx HK
          rcases k with _ | m
          · rw [Nat.add_zero] at cx
            simp only [Nat.add_zero] at kx
            have HA2 : Hid (∀ j, j < 0 + 1 → nameAt ls j) := Lib.hid (fun j hj => by
              obtain rfl : j = 0 := by omega
              exact ⟨HOK.out, fun h => by omega⟩)
            rw [show ((0 : Nat) : Int) = 0 from rfl]
            clear HNo
            go_wp2_with fail
            refine (HN1.out _).mono ?_
            rintro e w2 ⟨rfl, rfl⟩
            go_upto_region 5 with (fail)
            refine wp_region_q (by kernel_rfl) (by kernel_rfl) ?_
            (repeat (go_big_quiet_step ((go_at_call 85; exact calls_q (HS1.out _)))))
            refine wpQuiet_nil ?_
            rintro w3 ⟨m3, hm3⟩
            have hq3 : Q w2 w3 := by rw [hm3]; exact m3.le
            have HQ3 := Lib.hid (HQ.out.trans hq3)
            clear m3 hm3 hq3 kx
            go_wp2_with fail
            go_roundw
            case rel => exact ⟨0 + 1, by omega, by go_num, HA2, HQ3⟩
            case measure => simp [intOf]; omega
          · obtain ⟨g2, off2, had, cy⟩ := (HP.out.q HQ.out).at (show m < ls.length by omega)
            cases had
            have hmi : 0 < (m : Int) + 1 := by omega
            obtain ⟨y, hy⟩ : ∃ y, gL ls m = y := ⟨_, rfl⟩
            have HY := Lib.hid hy
            rw [hy] at cy
            clear hy
            have ky : ∀ m' : QW wa, m'.val.cell? ⟨g, off + m, none⟩ = some (.string ⟨y.toArray⟩) := fun m' => m'.cell cy
            rcases hb1 : Op.bytesLess x y with _ | _
            · rcases hb2 : (x == y) with _ | _
              · have hlt2 : y < x := by
                  have h1 : ¬ x < y := fun h => by rw [(blw_lt x y).2 h] at hb1; cases hb1
                  have h2 : x ≠ y := by simpa using hb2
                  exact List.not_le.1 (fun hle => h2 (List.le_antisymm hle (List.not_lt.1 h1)))
                have HA2 : Hid (∀ j, j < m + 1 + 1 → nameAt ls j) := Lib.hid (fun j hj => by
                  by_cases e : j = m + 1
                  · subst e; exact ⟨HOK.out, fun _ => by rw [HX.out, show m + 1 - 1 = m by omega, HY.out]; exact hlt2⟩
                  · exact HA.out j (by omega))
                clear hlt2 HNo
                go_wp2_with fail
                refine (HN1.out _).mono ?_
                rintro e w2 ⟨rfl, rfl⟩
                go_upto_region 5 with (fail)
                refine wp_region_q (by kernel_rfl) (by kernel_rfl) ?_
                (repeat (go_big_quiet_step ((go_at_call 85; exact calls_q (HS1.out _)))))
                refine wpQuiet_nil ?_
                rintro w3 ⟨m3, hm3⟩
                have hq3 : Q w2 w3 := by rw [hm3]; exact m3.le
                have HQ3 := Lib.hid (HQ.out.trans hq3)
                clear m3 hm3 hq3 kx ky
                go_wp2_with fail
                go_roundw
                case rel => exact ⟨m + 1 + 1, by omega, by go_num, HA2, HQ3⟩
                case measure => simp [intOf]; omega
              · have hxy : x = y := by simpa using hb2
                have hno : ¬ y < x := fun h => by rw [hxy] at h; exact List.lt_irrefl y h
                clear hxy
                have HF : Hid (¬ namesOk ls) := Lib.hid (HNo.out (fun h => by
                  have h1 := h.2 (by omega)
                  rw [HX.out, show m + 1 - 1 = m by omega, HY.out] at h1
                  exact hno h1))
                clear HNo hno
                go_wp2_with fail
                refine (HN1.out _).mono ?_
                rintro e w2 ⟨rfl, rfl⟩
                go_upto_region 5 with (fail)
                refine wp_region_q (by kernel_rfl) (by kernel_rfl) ?_
                (repeat (go_big_quiet_step ((go_at_call 85; exact calls_q (HS1.out _)))))
                refine wpQuiet_nil ?_
                rintro w3 ⟨m3, hm3⟩
                have hq3 : Q w2 w3 := by rw [hm3]; exact m3.le
                have HQ3 := Lib.hid (HQ.out.trans hq3)
                clear m3 hm3 hq3 kx ky
                go_wp2_with fail
                go_ret
                exact ⟨⟨false, rfl, by simp [HF.out]⟩, HQ3.out⟩
            · have hno : ¬ y < x := fun h => List.lt_irrefl _ (List.lt_trans h ((blw_lt x y).1 hb1))
              have HF : Hid (¬ namesOk ls) := Lib.hid (HNo.out (fun h => by
                have h1 := h.2 (by omega)
                rw [HX.out, show m + 1 - 1 = m by omega, HY.out] at h1
                exact hno h1))
              clear HNo hno
              go_wp2_with fail
              refine (HN1.out _).mono ?_
              rintro e w2 ⟨rfl, rfl⟩
              go_upto_region 5 with (fail)
              refine wp_region_q (by kernel_rfl) (by kernel_rfl) ?_
              (repeat (go_big_quiet_step ((go_at_call 85; exact calls_q (HS1.out _)))))
              refine wpQuiet_nil ?_
              rintro w3 ⟨m3, hm3⟩
              have hq3 : Q w2 w3 := by rw [hm3]; exact m3.le
              have HQ3 := Lib.hid (HQ.out.trans hq3)
              clear m3 hm3 hq3 kx ky
              go_wp2_with fail
              go_ret
              exact ⟨⟨false, rfl, by simp [HF.out]⟩, HQ3.out⟩
        · have q1 : (SX == x) = false := by simpa using hsx
          have HF : Hid (¬ namesOk ls) := Lib.hid (HNo.out (fun h => by have h1 := h.1; rw [HX.out, ← HK.out] at h1; exact hsx h1.2))
          clear HNo HK hsx
          go_wp2_with fail
          refine (HN1.out _).mono ?_
          rintro e w2 ⟨rfl, rfl⟩
          go_upto_region 5 with (fail)
          refine wp_region_q (by kernel_rfl) (by kernel_rfl) ?_
          (repeat (go_big_quiet_step ((go_at_call 85; exact calls_q (HS1.out _)))))
          refine wpQuiet_nil ?_
          rintro w3 ⟨m3, hm3⟩
          have hq3 : Q w2 w3 := by rw [hm3]; exact m3.le
          have HQ3 := Lib.hid (HQ.out.trans hq3)
          clear m3 hm3 hq3 kx
          go_wp2_with fail
          go_ret
          exact ⟨⟨false, rfl, by simp [HF.out]⟩, HQ3.out⟩
    · obtain rfl : k = ls.length := by omega
      clear hlt
      by_cases h0 : ls.length = 0
      · have HF : Hid (¬ namesOk ls) := Lib.hid (fun h => h.1 (List.eq_nil_of_length_eq_zero h0))
        have h0i : ¬ 0 < (ls.length : Int) := by omega
        clear h0
        go_wp2_with fail
        go_ret
        exact ⟨⟨_, rfl, by simp only [HF.out, iff_false, decide_eq_true_eq]; omega⟩, HQ.out⟩
      · have HF : Hid (namesOk ls) := Lib.hid ⟨fun e => h0 (by rw [e]; rfl), HA.out⟩
        have h0i : 0 < (ls.length : Int) := by omega
        clear h0
        go_wp2_with fail
        go_ret
        exact ⟨⟨_, rfl, by simp only [HF.out, iff_true, decide_eq_true_eq]; omega⟩, HQ.out⟩
end Go.Proofs.YtmmoenbmgcplkaaGreatDoor
set_option linter.unusedVariables false
set_option linter.unusedSimpArgs false
namespace Go.Proofs.YtmmoenbmgcplkaaGreatDoor
open Go Go.RowKit
theorem okW_nat (b : UInt8) : okW b = true ↔ (33 ≤ b.toNat ∧ b.toNat ≤ 126 ∧ b.toNat ≠ 47 ∧ b.toNat ≠ 44 ∧ b.toNat ≠ 61) := by
  have key : ∀ n : Fin 256, okW n.val.toUInt8 = true ↔ (33 ≤ n.val.toUInt8.toNat ∧ n.val.toUInt8.toNat ≤ 126 ∧ n.val.toUInt8.toNat ≠ 47 ∧ n.val.toUInt8.toNat ≠ 44 ∧ n.val.toUInt8.toNat ≠ 61) := by decide +kernel
  have := key ⟨b.toNat, b.toNat_lt⟩
  simpa using this
set_option maxRecDepth 100000 in
set_option maxHeartbeats 4000000 in
theorem RWord_any (s : List UInt8) (w : World) (hl : s.length ≤ 100000000) : Calls Tryz.prog 49 #[.string ⟨s.toArray⟩] w fun e w' => e = .returned (.bool (wordL s)) ∧ w' = w := by
  go_enter Tryz.func49, Tryz.ntmps49
  go_wp2_with fail
  go_loopw [3] (fun i wr => ∃ k : Nat, k ≤ s.length ∧ i = .int .i64 (k : Int) ∧ Hid ((s.take k).all okW = true) ∧ wr = w) (fun i _ => s.length - (intOf i).toNat)
  case atStart => exact ⟨0, by omega, rfl, Lib.hid (by simp), rfl⟩
  case round =>
    obtain ⟨k, hk, rfl, HA, rfl⟩ := hrel
    by_cases hlt : k < s.length
    · have g1 : decide (k < s.length) = true := by simpa using hlt
      have HSN := Lib.hid (all_snocW s k hlt okW)
      have HB := Lib.hid (fun h => all_bad (p := okW) hlt h)
      obtain ⟨b, hgb⟩ : ∃ b, gB s k = b := ⟨_, rfl⟩
      rw [hgb] at HSN HB
      have hok := okW_nat b
      have hok2 : okW b = false ↔ ¬ (33 ≤ b.toNat ∧ b.toNat ≤ 126 ∧ b.toNat ≠ 47 ∧ b.toNat ≠ 44 ∧ b.toNat ≠ 61) := by rw [← hok]; simp
      have hb8 := b.toNat_lt
      have HOK := Lib.hid hok
      have HOK2 := Lib.hid hok2
      clear hok hok2
      have hcs : ((b.toNat : Int) < 33) ∨ ((126 : Int) < b.toNat) ∨ ((b.toNat : Int) = 47) ∨ ((b.toNat : Int) = 44) ∨ ((b.toNat : Int) = 61) ∨ ((33 : Int) ≤ b.toNat ∧ (b.toNat : Int) ≤ 126 ∧ (b.toNat : Int) ≠ 47 ∧ (b.toNat : Int) ≠ 44 ∧ (b.toNat : Int) ≠ 61) := by omega
      rcases hcs with h | h | h | h | h | ⟨h, h2, h3, h4, h5⟩
      · have HF : Hid (wordL s = false) := Lib.hid (by unfold wordL; rw [HB.out (HOK2.out.2 (by omega))]; rfl)
        have q1 : decide ((b.toNat : Int) < 33) = true := by simp; omega
        clear HOK HOK2 HSN HB HA
        go_wp2_with fail
        go_ret
        exact ⟨by rw [HF.out]; rfl, rfl⟩
      · have HF : Hid (wordL s = false) := Lib.hid (by unfold wordL; rw [HB.out (HOK2.out.2 (by omega))]; rfl)
        have q1 : decide ((b.toNat : Int) < 33) = false := by simp; omega
        have q2 : decide ((126 : Int) < (b.toNat : Int)) = true := by simp; omega
        clear HOK HOK2 HSN HB HA
        go_wp2_with fail
        go_ret
        exact ⟨by rw [HF.out]; rfl, rfl⟩
      all_goals
        have q1 : decide ((b.toNat : Int) < 33) = false := by simp; omega
        have q2 : decide ((126 : Int) < (b.toNat : Int)) = false := by simp; omega
      · have HF : Hid (wordL s = false) := Lib.hid (by unfold wordL; rw [HB.out (HOK2.out.2 (by omega))]; rfl)
        have q3 : ((b.toNat : Int) == 47) = true := by rw [beq_iff_eq]; omega
        clear HOK HOK2 HSN HB HA
        go_wp2_with fail
        go_ret
        exact ⟨by rw [HF.out]; rfl, rfl⟩
      · have HF : Hid (wordL s = false) := Lib.hid (by unfold wordL; rw [HB.out (HOK2.out.2 (by omega))]; rfl)
        have q3 : ((b.toNat : Int) == 47) = false := by rw [beq_eq_false_iff_ne]; omega
        have q4 : ((b.toNat : Int) == 44) = true := by rw [beq_iff_eq]; omega
        clear HOK HOK2 HSN HB HA
        go_wp2_with fail
        go_ret
        exact ⟨by rw [HF.out]; rfl, rfl⟩
      · have HF : Hid (wordL s = false) := Lib.hid (by unfold wordL; rw [HB.out (HOK2.out.2 (by omega))]; rfl)
        have q3 : ((b.toNat : Int) == 47) = false := by rw [beq_eq_false_iff_ne]; omega
        have q4 : ((b.toNat : Int) == 44) = false := by rw [beq_eq_false_iff_ne]; omega
        have q5 : ((b.toNat : Int) == 61) = true := by rw [beq_iff_eq]; omega
        clear HOK HOK2 HSN HB HA
        go_wp2_with fail
        go_ret
        exact ⟨by rw [HF.out]; rfl, rfl⟩
      · have HA2 : Hid ((s.take (k + 1)).all okW = true) := Lib.hid (by rw [HSN.out, HA.out, HOK.out.2 (by omega)]; rfl)
        have q3 : ((b.toNat : Int) == 47) = false := by rw [beq_eq_false_iff_ne]; omega
        have q4 : ((b.toNat : Int) == 44) = false := by rw [beq_eq_false_iff_ne]; omega
        have q5 : ((b.toNat : Int) == 61) = false := by rw [beq_eq_false_iff_ne]; omega
        clear HOK HOK2 HSN HB h3 h4 h5
        go_wp2_with fail
        go_roundw
        case rel => exact ⟨k + 1, by omega, by go_num, HA2, trivial⟩
        case measure => simp [intOf]; omega
    · obtain rfl : k = s.length := by omega
      have hA := HA.out
      rw [List.take_length] at hA
      have HR : Hid (wordL s = !s.isEmpty) := Lib.hid (by unfold wordL; rw [hA]; rfl)
      clear hA HA hlt
      rcases hE : s.isEmpty with _ | _
      · rw [hE] at HR
        go_wp2_with fail
        go_ret
        refine ⟨?_, rfl⟩
        rw [HR.out]
        first | rfl | (show Ending.returned (.bool _) = .returned (.bool true); simp [bne, hE])
      · rw [hE] at HR
        go_wp2_with fail
        go_ret
        refine ⟨?_, rfl⟩
        rw [HR.out]
        first | rfl | (show Ending.returned (.bool _) = .returned (.bool false); simp [bne, hE])
def startsR (h s : List UInt8) : List UInt8 := if Lib.hasPrefix s h then s.drop h.length else []
theorem prefix_take (s h : List UInt8) : Lib.hasPrefix s h = true ↔ (h.length ≤ s.length ∧ s.take h.length = h) := by
  unfold Lib.hasPrefix
  rw [List.isPrefixOf_iff_prefix]
  constructor
  · intro hp
    exact ⟨hp.length_le, (List.prefix_iff_eq_take.1 hp).symm⟩
  · rintro ⟨_, h2⟩
    exact List.prefix_iff_eq_take.2 h2.symm
set_option maxRecDepth 100000 in
set_option maxHeartbeats 1000000 in
theorem starts_any (s h : List UInt8) (w : World) (hl : s.length ≤ 100000000) (hh : h.length ≤ 1000) : Calls Tryz.prog 92 #[.string ⟨s.toArray⟩, .string ⟨h.toArray⟩] w fun e w' => e = .returned (.tuple #[.string ⟨(startsR h s).toArray⟩, .bool (Lib.hasPrefix s h)]) ∧ w' = w := by
  have hp := prefix_take s h
  have HP := Lib.hid hp
  clear hp
  by_cases h1 : s.length < h.length
  · have HF : Hid (Lib.hasPrefix s h = false) := Lib.hid (by rcases hx : Lib.hasPrefix s h with _ | _; rfl; exact absurd (HP.out.1 hx).1 (by omega))
    have q1 : decide ((s.length : Int) < (h.length : Int)) = true := by simp; omega
    go_enter Tryz.func92, Tryz.ntmps92
    go_wp2_with fail
    go_ret2
    exact ⟨by unfold startsR; rw [HF.out]; rfl, rfl⟩
  · have q1 : decide ((s.length : Int) < (h.length : Int)) = false := by simp; omega
    have hsub : sub s 0 h.length = s.take h.length := sub_zero0 s _
    have hsub2 : sub s h.length s.length = s.drop h.length := by unfold sub; rw [List.take_length]
    obtain ⟨P1, hP1⟩ : ∃ x, s.take h.length = x := ⟨_, rfl⟩
    rw [hP1] at hsub HP
    by_cases h2 : P1 = h
    · have HF : Hid (Lib.hasPrefix s h = true) := Lib.hid (HP.out.2 ⟨by omega, h2⟩)
      have q2 : (P1 == h) = true := by simpa using h2
      have HR : Hid (startsR h s = s.drop h.length) := Lib.hid (by unfold startsR; rw [if_pos HF.out])
      obtain ⟨D, hD⟩ : ∃ x, s.drop h.length = x := ⟨_, rfl⟩
      rw [hD] at hsub2 HR
      clear hP1 h2 hD HP
      go_enter Tryz.func92, Tryz.ntmps92
      go_wp2_with fail
      go_ret2
      rw [HR.out, HF.out]
      first | exact ⟨rfl, rfl⟩ | (refine ⟨?_, rfl⟩; simp [*])
    · have HF : Hid (Lib.hasPrefix s h = false) := Lib.hid (by rcases hx : Lib.hasPrefix s h with _ | _; rfl; exact absurd (HP.out.1 hx).2 h2)
      have q2 : (P1 == h) = false := by simpa using h2
      clear hP1 h2 HP hsub2
      go_enter Tryz.func92, Tryz.ntmps92
      go_wp2_with fail
      go_ret2
      exact ⟨by unfold startsR; rw [HF.out]; rfl, rfl⟩
def uptoR (c : UInt8) (s : List UInt8) : List UInt8 := if uptoB c s then uptoP c s else []
theorem cut_before {s : List UInt8} {c : UInt8} {k : Nat} (hk : k < s.length) (hn : ∀ j, j < k → gB s j ≠ c) (h : gB s k = c) : cutB c s = (s.take k, s.drop (k + 1), true) := by
  have := cutB_at s (q := k) (c := c) ⟨by omega, hn, fun _ => h⟩
  rw [this]; simp [hk]
theorem cut_never {s : List UInt8} {c : UInt8} (hn : ∀ j, j < s.length → gB s j ≠ c) : cutB c s = (s, [], false) := by
  have := cutB_at s (q := s.length) (c := c) ⟨by omega, hn, fun h => by omega⟩
  rw [this]; simp
set_option maxRecDepth 100000 in
set_option maxHeartbeats 1000000 in
theorem Rupto_any (s : List UInt8) (c : UInt8) (w : World) (hl : s.length ≤ 100000000) : Calls Tryz.prog 94 #[.string ⟨s.toArray⟩, .int .u8 (c.toNat : Int)] w fun e w' => e = .returned (.tuple #[.string ⟨(uptoR c s).toArray⟩, .string ⟨(uptoS c s).toArray⟩, .bool (uptoB c s)]) ∧ Q w w' := by
  go_enter Tryz.func94, Tryz.ntmps94
  go_wp2_with fail
  go_loopw [7] (fun i wr => ∃ k : Nat, k ≤ s.length ∧ i = .int .i64 (k : Int) ∧ Hid (∀ j, j < k → gB s j ≠ c) ∧ wr = w) (fun i _ => s.length - (intOf i).toNat)
  case atStart => exact ⟨0, by omega, rfl, Lib.hid (fun j h => by omega), rfl⟩
  case round =>
    obtain ⟨k, hk, rfl, HA, rfl⟩ := hrel
    by_cases hlt : k < s.length
    · have g1 : decide (k < s.length) = true := by simpa using hlt
      have HC := Lib.hid (fun h => cut_before hlt HA.out h)
      obtain ⟨b, hgb⟩ : ∃ b, gB s k = b := ⟨_, rfl⟩
      rw [hgb] at HC
      have HG := Lib.hid hgb
      have hb8 := b.toNat_lt
      have hc8 := c.toNat_lt
      by_cases hbc : b.toNat = c.toNat
      · have q1 : ((b.toNat : Int) == (c.toNat : Int)) = true := by rw [beq_iff_eq]; omega
        have HC2 := Lib.hid (HC.out (UInt8.toNat_inj.1 hbc))
        have HR : Hid (uptoR c s = s.take k ∧ uptoS c s = s.drop (k + 1) ∧ uptoB c s = true) := Lib.hid (by unfold uptoR uptoS uptoB uptoP; rw [HC2.out]; simp)
        have hsub : sub s 0 k = s.take k := sub_zero0 s _
        have hsub2 : sub s (k + 1) s.length = s.drop (k + 1) := by unfold sub; rw [List.take_length]
        clear HC HC2 HA HG
        generalize s.take k = P1 at hsub HR
        generalize s.drop (k + 1) = P2 at hsub2 HR
        rename World => wa
        go_upto_region 5 with (fail)
        refine wp_region_q (by kernel_rfl) (by kernel_rfl) ?_
        (repeat (go_big_quiet_step (fail)))
        refine wpQuiet_nil ?_
        rintro wx ⟨mx, hmx⟩
        have hqx : Q wa wx := by rw [hmx]; exact mx.le
        have HQX := Lib.hid hqx
        clear mx hmx hqx
        go_wp2_with fail
        go_ret3
        rw [HR.out.1, HR.out.2.1, HR.out.2.2]
        exact ⟨rfl, HQX.out⟩
      · have q1 : ((b.toNat : Int) == (c.toNat : Int)) = false := by rw [beq_eq_false_iff_ne]; omega
        have HA2 : Hid (∀ j, j < k + 1 → gB s j ≠ c) := Lib.hid (fun j hj => by
          by_cases e : j = k
          · subst e; rw [HG.out]; intro e2; exact hbc (by rw [e2])
          · exact HA.out j (by omega))
        clear HC HG
        go_wp2_with fail
        go_roundw
        case rel => exact ⟨k + 1, by omega, by go_num, HA2, trivial⟩
        case measure => simp [intOf]; omega
    · obtain rfl : k = s.length := by omega
      have hc := cut_never HA.out
      have HR : Hid (uptoR c s = [] ∧ uptoS c s = [] ∧ uptoB c s = false) := Lib.hid (by unfold uptoR uptoS uptoB uptoP; rw [hc]; simp)
      clear hc HA hlt
      go_wp2_with fail
      go_ret3
      rw [HR.out.1, HR.out.2.1, HR.out.2.2]
      exact ⟨rfl, Q.refl _⟩
set_option maxRecDepth 100000 in
set_option maxHeartbeats 1000000 in
theorem blanks_any (s : List UInt8) (w : World) (hl : s.length ≤ 100000000) : Calls Tryz.prog 93 #[.string ⟨s.toArray⟩] w fun e w' => e = .returned (.string ⟨(blkL s).toArray⟩) ∧ w' = w := by
  have HS := Lib.hid hl
  go_enter Tryz.func93, Tryz.ntmps93
  go_wp2_with fail
  go_loopw [0] (fun v wr => ∃ t : List UInt8, v = .string ⟨t.toArray⟩ ∧ t.length ≤ 100000000 ∧ Hid (blkL t = blkL s) ∧ wr = w) (fun v _ => match v with | .string b => b.size | _ => 0)
  case atStart => exact ⟨s, rfl, hl, Lib.hid rfl, rfl⟩
  case round =>
    obtain ⟨t, rfl, htl, HB, rfl⟩ := hrel
    rcases t with _ | ⟨b, r⟩
    · have HR : Hid (blkL s = []) := Lib.hid (by rw [← HB.out]; rfl)
      clear HB
      go_wp2_with fail
      go_ret
      rw [HR.out]
      exact ⟨rfl, rfl⟩
    · have hpos : (0 : Int) < ((b :: r).length : Int) := by rw [List.length_cons]; omega
      have q0 : decide (0 < (b :: r).length) = true := by simp
      have hg : gB (b :: r) 0 = b := rfl
      have hsub : sub (b :: r) 1 (b :: r).length = r := by unfold sub; simp
      have hl1 : (b :: r).length = r.length + 1 := rfl
      obtain ⟨t, ht⟩ : ∃ t, b :: r = t := ⟨_, rfl⟩
      have hB : blkL t = if b = 32 then blkL r else t := by
        rw [← ht]
        unfold blkL Lib.trimLeftB
        by_cases hb : b = 32
        · rw [if_pos hb, List.dropWhile_cons_of_pos (by rw [hb]; rfl)]
        · rw [if_neg hb, List.dropWhile_cons_of_neg (by simpa using hb)]
      rw [ht] at hpos q0 hg hsub HB htl hl1 ⊢
      have HBB := Lib.hid hB
      have HL1 := Lib.hid hl1
      clear ht hB hl1
      have hb8 := b.toNat_lt
      by_cases hb : b = 32
      · have q1 : ((b.toNat : Int) == 32) = true := by rw [hb]; rfl
        have HB2 : Hid (blkL r = blkL s) := Lib.hid (by rw [← HB.out, HBB.out, if_pos hb])
        have hrl : r.length ≤ 100000000 := by have := HL1.out; omega
        clear HB HBB hb
        go_wp2_with fail
        go_roundw
        case rel => exact ⟨r, by simp [*], hrl, HB2, trivial⟩
        case measure => simp [*, ByteArray.size]; have := HL1.out; omega
      · have q1 : ((b.toNat : Int) == 32) = false := by rw [beq_eq_false_iff_ne]; intro e; exact hb (UInt8.toNat_inj.1 (by have : (32 : UInt8).toNat = 32 := rfl; omega))
        have HR : Hid (blkL s = t) := Lib.hid (by rw [← HB.out, HBB.out, if_neg hb])
        clear HB HBB hb
        go_wp2_with fail
        go_ret
        rw [HR.out]
        exact ⟨rfl, rfl⟩
set_option maxRecDepth 100000 in
set_option maxHeartbeats 1000000 in
theorem Rhas_any (A : Option Addr) (n cap : Nat) (ls : List (List UInt8)) (t : List UInt8) (w : World) (h : NmAt w A n ls) (hn : n ≤ 100000000) :
    Calls Tryz.prog 55 #[.slice A n cap, .string ⟨t.toArray⟩] w fun e w' => e = .returned (.bool (decide (t ∈ ls))) ∧ w' = w := by
  obtain rfl := h.1
  have HP := Lib.hid h
  clear h
  go_enter Tryz.func55, Tryz.ntmps55
  go_wp2_with fail
  go_loopw [5] (fun i wr => ∃ k : Nat, k ≤ ls.length ∧ i = .int .i64 (k : Int) ∧ Hid (∀ j, j < k → gL ls j ≠ t) ∧ wr = w) (fun i _ => ls.length - (intOf i).toNat)
  case atStart => exact ⟨0, by omega, rfl, Lib.hid (fun j h => by omega), rfl⟩
  case round =>
    obtain ⟨k, hk, rfl, HA, rfl⟩ := hrel
    by_cases hlt : k < ls.length
    · have g1 : decide (k < ls.length) = true := by simpa using hlt
      obtain ⟨g, off, rfl, cx⟩ := HP.out.at hlt
      have HM : Hid (gL ls k ∈ ls) := Lib.hid (by rw [gL_get ls k hlt]; exact List.getElem_mem hlt)
      obtain ⟨x, hx⟩ : ∃ x, gL ls k = x := ⟨_, rfl⟩
      have HX := Lib.hid hx
      rw [hx] at cx HM
      clear hx
      by_cases he : x = t
      · have q1 : (x == t) = true := by simpa using he
        have HR : Hid (decide (t ∈ ls) = true) := Lib.hid (by rw [← he]; exact decide_eq_true HM.out)
        clear he HM HX HA
        go_wp2_with fail
        go_ret
        rw [HR.out]
        exact ⟨rfl, rfl⟩
      · have q1 : (x == t) = false := by simpa using he
        have HA2 : Hid (∀ j, j < k + 1 → gL ls j ≠ t) := Lib.hid (fun j hj => by
          by_cases e : j = k
          · subst e; rw [HX.out]; exact he
          · exact HA.out j (by omega))
        clear he HM HX
        go_wp2_with fail
        go_roundw
        case rel => exact ⟨k + 1, by omega, by go_num, HA2, trivial⟩
        case measure => simp [intOf]; omega
    · obtain rfl : k = ls.length := by omega
      have HR : Hid (decide (t ∈ ls) = false) := Lib.hid (decide_eq_false (fun hm => by
        obtain ⟨j, hj, e⟩ := List.mem_iff_getElem.1 hm
        exact HA.out j hj (by rw [gL_get ls j hj]; exact e)))
      clear HA hlt
      go_wp2_with fail
      go_ret
      rw [HR.out]
      exact ⟨rfl, rfl⟩
end Go.Proofs.YtmmoenbmgcplkaaGreatDoor
set_option linter.unusedVariables false
set_option linter.unusedSimpArgs false
namespace Go.Proofs.YtmmoenbmgcplkaaGreatDoor
open Go Go.RowKit
theorem RScope_any (st rg : List UInt8) (w : World) (h1 : st.length ≤ 100000000) (h2 : rg.length ≤ 100000000) : Calls Tryz.prog 43 #[.string ⟨st.toArray⟩, .string ⟨rg.toArray⟩] w fun e w' => e = .returned (.string ⟨(scopeL st rg).toArray⟩) ∧ w' = w := by
  obtain ⟨m, hm⟩ : ∃ m : Nat, min (8 : Int) (st.length : Int) = (m : Int) := ⟨min 8 st.length, by omega⟩
  have hms : m ≤ st.length := by omega
  have ht : sub st 0 m = st.take 8 := by
    rw [sub_zero0]
    rcases Nat.lt_or_ge st.length 8 with h | h
    · rw [List.take_of_length_le (by omega), List.take_of_length_le (by omega)]
    · rw [show m = 8 by omega]
  have HT := Lib.hid ht
  have hsl := length_sub st 0 m
  have hsl2 : (sub st 0 m).length ≤ 100000000 := by omega
  clear ht hsl
  go_enter Tryz.func43, Tryz.ntmps43
  go_wp2_with fail
  go_ret
  refine ⟨?_, rfl⟩
  show Ending.returned (.string _) = _
  unfold scopeL awsL
  rw [← HT.out]
  simp
theorem text_plain (st rg c : List UInt8) : textL st rg c = (methodL ++ [10]) ++ st ++ [10] ++ scopeL st rg ++ [10] ++ hexL (sha c) := by
  unfold textL
  rw [join_cons, join_cons, join_cons, join_one]
  simp
set_option maxHeartbeats 1000000 in
theorem RText_any (st rg c : List UInt8) (w : World) (h1 : st.length ≤ 100000000) (h2 : rg.length ≤ 100000000) (h3 : c.length ≤ 140737488355328) : Calls Tryz.prog 17 #[.string ⟨st.toArray⟩, .string ⟨rg.toArray⟩, .string ⟨c.toArray⟩] w fun e w' => e = .returned (.string ⟨(textL st rg c).toArray⟩) ∧ Q w w' := by
  have hsc := scopeL_len st rg
  have HSc := Lib.hid (fun W => RScope_any st rg W h1 h2)
  have HSh := Lib.hid (fun W => Sum256R_any c W (by omega))
  have hhl : (sha c).length ≤ 140737488355328 := by rw [sha_length]; omega
  have HHx := Lib.hid (fun W => RHex_any (sha c) W (by rw [sha_length]; omega))
  have hxl := hexsha_len c
  have HT := Lib.hid (text_plain st rg c)
  generalize hexL (sha c) = X at HHx hxl HT
  generalize sha c = S at HHx HSh hhl
  generalize scopeL st rg = SC at HSc hsc HT
  go_enter Tryz.func17, Tryz.ntmps17
  go_wp2_with fail
  refine (HSc.out _).mono ?_
  rintro e w1 ⟨rfl, rfl⟩
  go_wp2_with fail
  refine (HSh.out _).mono ?_
  rintro e w2 ⟨rfl, hq2⟩
  go_wp2_with fail
  refine (HHx.out _).mono ?_
  rintro e w3 ⟨rfl, hq3⟩
  have HQ3 := Lib.hid (hq2.trans hq3)
  clear hq2 hq3
  go_wp2_with fail
  go_ret
  refine ⟨?_, HQ3.out⟩
  rw [HT.out]
  show Ending.returned (.string _) = _
  unfold methodL
  simp
set_option maxRecDepth 100000 in
set_option maxHeartbeats 1000000 in
theorem RKey_any (secret day rg : List UInt8) (w : World) (h1 : secret.length ≤ 100000000) (h2 : day.length ≤ 100000000) (h3 : rg.length ≤ 100000000) : Calls Tryz.prog 19 #[.string ⟨secret.toArray⟩, .string ⟨day.toArray⟩, .string ⟨rg.toArray⟩] w fun e w' => e = .returned (.string ⟨(keyL secret day rg).toArray⟩) ∧ Q w w' := by
  have hK : keyL secret day rg = mac (mac (mac (mac ([65, 87, 83, 52] ++ secret) day) rg) [115, 51]) [97, 119, 115, 52, 95, 114, 101, 113, 117, 101, 115, 116] := rfl
  have HK := Lib.hid hK
  have HM1 := Lib.hid (fun W => MACR_any ([65, 87, 83, 52] ++ secret) day W (by omega) (by simp; omega))
  have hl1 := mac_length ([65, 87, 83, 52] ++ secret) day
  clear hK
  generalize mac ([65, 87, 83, 52] ++ secret) day = M1 at HM1 hl1 HK
  have HM2 := Lib.hid (fun W => MACR_any M1 rg W (by omega) (by omega))
  have hl2 := mac_length M1 rg
  generalize mac M1 rg = M2 at HM2 hl2 HK
  have HM3 := Lib.hid (fun W => MACR_any M2 [115, 51] W (by decide) (by omega))
  have hl3 := mac_length M2 [115, 51]
  generalize mac M2 [115, 51] = M3 at HM3 hl3 HK
  have HM4 := Lib.hid (fun W => MACR_any M3 [97, 119, 115, 52, 95, 114, 101, 113, 117, 101, 115, 116] W (by decide) (by omega))
  generalize mac M3 [97, 119, 115, 52, 95, 114, 101, 113, 117, 101, 115, 116] = M4 at HM4 HK
  simp only [List.cons_append, List.nil_append] at HM1
  clear hl1 hl2 hl3
  go_enter Tryz.func19, Tryz.ntmps19
  go_wp2_with fail
  refine (HM1.out _).mono ?_
  rintro e w2 ⟨rfl, hq2⟩
  go_wp2_with fail
  refine (HM2.out _).mono ?_
  rintro e w3 ⟨rfl, hq3⟩
  go_wp2_with fail
  refine (HM3.out _).mono ?_
  rintro e w4 ⟨rfl, hq4⟩
  go_wp2_with fail
  refine (HM4.out _).mono ?_
  rintro e w5 ⟨rfl, hq5⟩
  have HQ5 := Lib.hid (((hq2.trans hq3).trans hq4).trans hq5)
  clear hq2 hq3 hq4 hq5
  go_wp2_with fail
  go_ret
  rw [HK.out]
  exact ⟨rfl, HQ5.out⟩
set_option maxHeartbeats 1000000 in
theorem RSignature_any (secret st rg c : List UInt8) (w : World) (h0 : secret.length ≤ 100000000) (h1 : st.length ≤ 100000000) (h2 : rg.length ≤ 100000000) (h3 : c.length ≤ 140737488355328) :
    Calls Tryz.prog 52 #[.string ⟨secret.toArray⟩, .string ⟨st.toArray⟩, .string ⟨rg.toArray⟩, .string ⟨c.toArray⟩] w fun e w' => e = .returned (.string ⟨(sigL secret st rg c).toArray⟩) ∧ Q w w' := by
  obtain ⟨m, hm⟩ : ∃ m : Nat, min (8 : Int) (st.length : Int) = (m : Int) := ⟨min 8 st.length, by omega⟩
  have hms : m ≤ st.length := by omega
  have ht : sub st 0 m = st.take 8 := by
    rw [sub_zero0]
    rcases Nat.lt_or_ge st.length 8 with h | h
    · rw [List.take_of_length_le (by omega), List.take_of_length_le (by omega)]
    · rw [show m = 8 by omega]
  have hsl := length_sub st 0 m
  have hsl2 : (sub st 0 m).length ≤ 100000000 := by omega
  have HK := Lib.hid (fun W => RKey_any secret (sub st 0 m) rg W h0 hsl2 h2)
  have HT := Lib.hid (fun W => RText_any st rg c W h1 h2 h3)
  have htl := textL_len st rg c h1 h2
  have hkl : (keyL secret (sub st 0 m) rg).length = 32 := by unfold keyL keyN; exact mac_length _ _
  have HM := Lib.hid (fun W => MACR_any (keyL secret (sub st 0 m) rg) (textL st rg c) W (by omega) (by omega))
  have hml := mac_length (keyL secret (sub st 0 m) rg) (textL st rg c)
  have HH := Lib.hid (fun W => RHex_any (mac (keyL secret (sub st 0 m) rg) (textL st rg c)) W (by omega))
  have HR : Hid (sigL secret st rg c = hexL (mac (keyL secret (sub st 0 m) rg) (textL st rg c))) := Lib.hid (by unfold sigL; rw [ht])
  generalize mac (keyL secret (sub st 0 m) rg) (textL st rg c) = M at HM HH HR hml
  generalize keyL secret (sub st 0 m) rg = K at HK HM hkl
  generalize textL st rg c = TX at HT HM htl
  clear ht hsl hkl hml htl
  go_enter Tryz.func52, Tryz.ntmps52
  go_wp2_with fail
  refine (HK.out _).mono ?_
  rintro e w2 ⟨rfl, hq2⟩
  go_wp2_with fail
  refine (HT.out _).mono ?_
  rintro e w3 ⟨rfl, hq3⟩
  go_wp2_with fail
  refine (HM.out _).mono ?_
  rintro e w4 ⟨rfl, hq4⟩
  go_wp2_with fail
  refine (HH.out _).mono ?_
  rintro e w5 ⟨rfl, hq5⟩
  have HQ5 := Lib.hid (((hq2.trans hq3).trans hq4).trans hq5)
  clear hq2 hq3 hq4 hq5
  go_wp2_with fail
  go_ret
  rw [HR.out]
  exact ⟨rfl, HQ5.out⟩
end Go.Proofs.YtmmoenbmgcplkaaGreatDoor
