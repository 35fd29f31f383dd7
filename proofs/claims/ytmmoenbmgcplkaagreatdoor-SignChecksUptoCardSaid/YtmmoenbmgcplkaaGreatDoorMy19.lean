/- Texts of this proof, laid into one: SgW, SgX, RfA. -/
import Derived.Test.YtmmoenbmgcplkaaGreatDoorMy18
import Derived.Deep.DeepCutAuto
set_option linter.unusedVariables false
set_option linter.unusedSimpArgs false
namespace Go.Proofs.YtmmoenbmgcplkaaGreatDoor
open Go Go.RowKit
set_option maxRecDepth 100000 in
set_option maxHeartbeats 1000000 in
theorem RSmall_any (l : List UInt8) (w : World) (hl : l.length ≤ 100000000) : Calls Tryz.prog 85 #[.string ⟨l.toArray⟩] w fun e w' => e = .returned (.string ⟨(smL l).toArray⟩) ∧ Q w w' := by
  obtain ⟨v, w1, hcv, hown, hq1, cap, hv⟩ := bytes_of l w (by omega)
  rw [hv] at hcv hown
  have h0 : midS l 0 = l := by unfold midS smL; simp
  have HOW : Hid (OwnB w w1 (.slice (some ⟨w.heap.size, 0, none⟩) l.length cap) (midS l 0)) := Lib.hid (by rw [h0]; exact hown)
  have HQ1 := Lib.hid hq1
  clear hown hq1 hv h0
  obtain ⟨N, hN⟩ : ∃ N, w.heap.size = N := ⟨_, rfl⟩
  rw [hN] at hcv HOW
  have HN := Lib.hid hN
  clear hN
  go_enter Tryz.func85, Tryz.ntmps85
  go_wp2_with fail
  clear hcv
  go_loopw [4] (fun i wr => ∃ k : Nat, k ≤ l.length ∧ i = .int .i64 (k : Int) ∧ Hid (OwnB w wr (.slice (some ⟨N, 0, none⟩) l.length cap) (midS l k)) ∧ Hid (Q w wr)) (fun i _ => l.length - (intOf i).toNat)
  case atStart => exact ⟨0, by omega, rfl, HOW, HQ1⟩
  case round =>
    clear HOW HQ1
    obtain ⟨k, hk, rfl, HO, HQ⟩ := hrel
    by_cases hlt : k < l.length
    · have g1 : decide (k < l.length) = true := by simpa using hlt
      obtain ⟨g, cc, hv, _, _, _, hcell⟩ := HO.out.pos (by rw [midS_len]; omega)
      rw [midS_len] at hv
      cases hv
      have hce := hcell k (by rw [midS_len]; exact hlt)
      rw [midS_at l k hlt] at hce
      obtain ⟨cx, fx⟩ := hce
      have HSET := Lib.hid (midS_set l k hlt)
      have HSAME := Lib.hid (midS_same l k hlt)
      clear hcell
      obtain ⟨b, hgb⟩ : ∃ b, gB l k = b := ⟨_, rfl⟩
      rw [hgb] at cx HSET HSAME
      have hsn := smB_nat b
      have hb8 := b.toNat_lt
      have hcs : (¬ 65 ≤ (b.toNat : Int)) ∨ (65 ≤ (b.toNat : Int) ∧ ¬ (b.toNat : Int) ≤ 90) ∨ (65 ≤ (b.toNat : Int) ∧ (b.toNat : Int) ≤ 90) := by omega
      rename World => wa
      rcases hcs with h1 | ⟨h1, h2⟩ | ⟨h1, h2⟩
      · have HM : Hid (midS l k = midS l (k + 1)) := Lib.hid (HSAME.out (UInt8.toNat_inj.1 (by rw [hsn, if_neg (by omega)])))
        clear hsn HSET HSAME
        go_wp2_with fail
        go_roundw
        case rel => exact ⟨k + 1, by omega, by go_num, by rw [← HM.out]; exact HO, HQ⟩
        case measure => simp [intOf]; omega
      · have HM : Hid (midS l k = midS l (k + 1)) := Lib.hid (HSAME.out (UInt8.toNat_inj.1 (by rw [hsn, if_neg (by omega)])))
        have d90 : decide ((b.toNat : Int) ≤ 90) = false := by simp; omega
        clear hsn HSET HSAME
        go_wp2_with fail
        go_roundw
        case rel => exact ⟨k + 1, by omega, by go_num, by rw [← HM.out]; exact HO, HQ⟩
        case measure => simp [intOf]; omega
      · have d90 : decide ((b.toNat : Int) ≤ 90) = true := by simp; omega
        have hsm : ((smB b).toNat : Int) = (b.toNat : Int) + 32 := by rw [hsn, if_pos (by omega)]; omega
        have ho := HO.out.set k (smB b)
        rw [HSET.out, hsm] at ho
        have HO2 := Lib.hid ho
        have HQ2 : Hid (Q w (wa.setCell ⟨N, k, none⟩ (.int .u8 ((b.toNat : Int) + 32)))) := Lib.hid (HQ.out.setNew (by rw [HN.out]; exact Nat.le_refl _) _)
        clear hsn hsm ho HSET HSAME
        go_wp2_with fail
        go_roundw
        case rel => exact ⟨k + 1, by omega, by go_num, HO2, HQ2⟩
        case measure => simp [intOf]; omega
    · obtain rfl : k = l.length := by omega
      have he : midS l l.length = smL l := by unfold midS; simp
      have ho := HO.out
      rw [he] at ho
      have hcv := conv_b ho
      have hsl : (smL l).length = l.length := by unfold smL; simp
      clear he ho hlt
      go_wp2_with fail
      go_ret
      exact ⟨rfl, HQ.out⟩
set_option maxRecDepth 100000 in
theorem Digit16_any (b : UInt8) (w : World) : Calls Tryz.prog 133 #[.int .u8 (b.toNat : Int)] w fun e w' => e = .returned (.bool (chrT b)) ∧ w' = w := by
  have hb := b.toNat_lt
  have hR : chrT b = (decide (48 ≤ b.toNat) && decide (b.toNat ≤ 57)) := rfl
  have HR := Lib.hid hR
  clear hR
  have hcs : ¬ (48 ≤ (b.toNat : Int)) ∨ (48 ≤ (b.toNat : Int) ∧ (b.toNat : Int) ≤ 57) ∨ (48 ≤ (b.toNat : Int) ∧ ¬ (b.toNat : Int) ≤ 57) := by omega
  rcases hcs with h1 | ⟨h1, h2⟩ | ⟨h1, h2⟩
  · go_enter Tryz.func133, Tryz.ntmps133
    go_wp2_with fail
    go_ret
    exact ⟨by rw [HR.out]; simp; omega, rfl⟩
  · have d : decide ((b.toNat : Int) ≤ 57) = true := by simp; omega
    go_enter Tryz.func133, Tryz.ntmps133
    go_wp2_with fail
    go_ret
    exact ⟨by rw [HR.out]; simp; omega, rfl⟩
  · have d : decide ((b.toNat : Int) ≤ 57) = false := by simp; omega
    go_enter Tryz.func133, Tryz.ntmps133
    go_wp2_with fail
    go_ret
    exact ⟨by rw [HR.out]; simp; omega, rfl⟩
def chrF (b : UInt8) : Bool := (decide (65 ≤ b.toNat) && decide (b.toNat ≤ 90)) || (decide (97 ≤ b.toNat) && decide (b.toNat ≤ 122)) || chrT b || decide (b.toNat = 45) || decide (b.toNat = 95)
def nameF (s : List UInt8) : Bool := s.all chrF && !s.isEmpty
theorem chrF_nat (b : UInt8) : chrF b = true ↔ ((65 ≤ b.toNat ∧ b.toNat ≤ 90) ∨ (97 ≤ b.toNat ∧ b.toNat ≤ 122) ∨ (48 ≤ b.toNat ∧ b.toNat ≤ 57) ∨ b.toNat = 45 ∨ b.toNat = 95) := by
  unfold chrF chrT
  simp only [Bool.or_eq_true, Bool.and_eq_true, decide_eq_true_eq]
  constructor <;> (intro h; omega)
set_option maxRecDepth 100000 in
set_option maxHeartbeats 4000000 in
theorem RName_any (s : List UInt8) (w : World) (hl : s.length ≤ 100000000) : Calls Tryz.prog 84 #[.string ⟨s.toArray⟩] w fun e w' => e = .returned (.bool (nameF s)) ∧ w' = w := by
  go_enter Tryz.func84, Tryz.ntmps84
  go_wp2_with fail
  go_loopw [3] (fun i wr => ∃ k : Nat, k ≤ s.length ∧ i = .int .i64 (k : Int) ∧ Hid ((s.take k).all chrF = true) ∧ wr = w) (fun i _ => s.length - (intOf i).toNat)
  case atStart => exact ⟨0, by omega, rfl, Lib.hid (by simp), rfl⟩
  case round =>
    obtain ⟨k, hk, rfl, HA, rfl⟩ := hrel
    by_cases hlt : k < s.length
    · have g1 : decide (k < s.length) = true := by simpa using hlt
      have HSN := Lib.hid (all_snocW s k hlt chrF)
      have HB := Lib.hid (fun h => all_bad (p := chrF) hlt h)
      obtain ⟨b, hgb⟩ : ∃ b, gB s k = b := ⟨_, rfl⟩
      rw [hgb] at HSN HB
      have HDg := Lib.hid (fun W => Digit16_any b W)
      have hok := chrF_nat b
      have hok2 : chrF b = false ↔ ¬ ((65 ≤ b.toNat ∧ b.toNat ≤ 90) ∨ (97 ≤ b.toNat ∧ b.toNat ≤ 122) ∨ (48 ≤ b.toNat ∧ b.toNat ≤ 57) ∨ b.toNat = 45 ∨ b.toNat = 95) := by rw [← hok]; simp
      have hdt : chrT b = (decide (48 ≤ b.toNat) && decide (b.toNat ≤ 57)) := rfl
      have hb8 := b.toNat_lt
      have hcs : ((65 : Int) ≤ b.toNat ∧ (b.toNat : Int) ≤ 90) ∨ ((97 : Int) ≤ b.toNat ∧ (b.toNat : Int) ≤ 122) ∨ ((48 : Int) ≤ b.toNat ∧ (b.toNat : Int) ≤ 57) ∨ ((b.toNat : Int) = 45) ∨ ((b.toNat : Int) = 95) ∨ ((b.toNat : Int) < 45) ∨ ((45 : Int) < b.toNat ∧ (b.toNat : Int) < 48) ∨ ((57 : Int) < b.toNat ∧ (b.toNat : Int) < 65) ∨ ((90 : Int) < b.toNat ∧ (b.toNat : Int) < 97 ∧ (b.toNat : Int) ≠ 95) ∨ ((122 : Int) < b.toNat) := by omega
      have HOK := Lib.hid hok
      have HOK2 := Lib.hid hok2
      have HDT := Lib.hid hdt
      clear hok hok2 hdt
      rcases hcs with ⟨a1, a2⟩ | ⟨a1, a2⟩ | ⟨a1, a2⟩ | a1 | a1 | a1 | ⟨a1, a2⟩ | ⟨a1, a2⟩ | ⟨a1, a2, a3⟩ | a1
      · have HA2 : Hid ((s.take (k + 1)).all chrF = true) := Lib.hid (by rw [HSN.out, HA.out, HOK.out.2 (by omega)]; rfl)
        have q_ge65 : decide ((65 : Int) ≤ (b.toNat : Int)) = true := by simp; omega
        have q_le90 : decide ((b.toNat : Int) ≤ 90) = true := by simp; omega
        have HD2 : Hid (chrT b = chrT b) := Lib.hid rfl
        clear HOK HOK2 HDT HSN HB
        go_wp2_with (go_at_call 133; refine (HDg.out _).mono ?_; rintro e wx ⟨rfl, rfl⟩; rw [HD2.out])
        go_roundw
        case rel => exact ⟨k + 1, by omega, by go_num, HA2, trivial⟩
        case measure => simp [intOf]; omega
      · have HA2 : Hid ((s.take (k + 1)).all chrF = true) := Lib.hid (by rw [HSN.out, HA.out, HOK.out.2 (by omega)]; rfl)
        have q_ge65 : decide ((65 : Int) ≤ (b.toNat : Int)) = true := by simp; omega
        have q_le90 : decide ((b.toNat : Int) ≤ 90) = false := by simp; omega
        have q_ge97 : decide ((97 : Int) ≤ (b.toNat : Int)) = true := by simp; omega
        have q_le122 : decide ((b.toNat : Int) ≤ 122) = true := by simp; omega
        have HD2 : Hid (chrT b = chrT b) := Lib.hid rfl
        clear HOK HOK2 HDT HSN HB
        go_wp2_with (go_at_call 133; refine (HDg.out _).mono ?_; rintro e wx ⟨rfl, rfl⟩; rw [HD2.out])
        go_roundw
        case rel => exact ⟨k + 1, by omega, by go_num, HA2, trivial⟩
        case measure => simp [intOf]; omega
      · have HA2 : Hid ((s.take (k + 1)).all chrF = true) := Lib.hid (by rw [HSN.out, HA.out, HOK.out.2 (by omega)]; rfl)
        have q_ge65 : decide ((65 : Int) ≤ (b.toNat : Int)) = false := by simp; omega
        have q_ge97 : decide ((97 : Int) ≤ (b.toNat : Int)) = false := by simp; omega
        have HD2 : Hid (chrT b = true) := Lib.hid (by rw [HDT.out]; simp; omega)
        clear HOK HOK2 HDT HSN HB
        go_wp2_with (go_at_call 133; refine (HDg.out _).mono ?_; rintro e wx ⟨rfl, rfl⟩; rw [HD2.out])
        go_roundw
        case rel => exact ⟨k + 1, by omega, by go_num, HA2, trivial⟩
        case measure => simp [intOf]; omega
      · have HA2 : Hid ((s.take (k + 1)).all chrF = true) := Lib.hid (by rw [HSN.out, HA.out, HOK.out.2 (by omega)]; rfl)
        have q_ge65 : decide ((65 : Int) ≤ (b.toNat : Int)) = false := by simp; omega
        have q_ge97 : decide ((97 : Int) ≤ (b.toNat : Int)) = false := by simp; omega
        have HD2 : Hid (chrT b = false) := Lib.hid (by rw [HDT.out]; simp; omega)
        have q_ne45 : ((b.toNat : Int) == 45) = true := by rw [beq_iff_eq]; omega
        have p_ne45 : ((b.toNat : Int) != 45) = false := by rw [bne_eq_false_iff_eq]; omega
        clear a1
        clear HOK HOK2 HDT HSN HB
        go_wp2_with (go_at_call 133; refine (HDg.out _).mono ?_; rintro e wx ⟨rfl, rfl⟩; rw [HD2.out])
        go_roundw
        case rel => exact ⟨k + 1, by omega, by go_num, HA2, trivial⟩
        case measure => simp [intOf]; omega
      · have HA2 : Hid ((s.take (k + 1)).all chrF = true) := Lib.hid (by rw [HSN.out, HA.out, HOK.out.2 (by omega)]; rfl)
        have q_ge65 : decide ((65 : Int) ≤ (b.toNat : Int)) = true := by simp; omega
        have q_le90 : decide ((b.toNat : Int) ≤ 90) = false := by simp; omega
        have q_ge97 : decide ((97 : Int) ≤ (b.toNat : Int)) = false := by simp; omega
        have HD2 : Hid (chrT b = false) := Lib.hid (by rw [HDT.out]; simp; omega)
        have q_ne45 : ((b.toNat : Int) == 45) = false := by rw [beq_eq_false_iff_ne]; omega
        have p_ne45 : ((b.toNat : Int) != 45) = true := by rw [bne_iff_ne]; omega
        have q_ne95 : ((b.toNat : Int) == 95) = true := by rw [beq_iff_eq]; omega
        have p_ne95 : ((b.toNat : Int) != 95) = false := by rw [bne_eq_false_iff_eq]; omega
        clear a1
        clear HOK HOK2 HDT HSN HB
        go_wp2_with (go_at_call 133; refine (HDg.out _).mono ?_; rintro e wx ⟨rfl, rfl⟩; rw [HD2.out])
        go_roundw
        case rel => exact ⟨k + 1, by omega, by go_num, HA2, trivial⟩
        case measure => simp [intOf]; omega
      · have HF : Hid (nameF s = false) := Lib.hid (by unfold nameF; rw [HB.out (HOK2.out.2 (by omega))]; rfl)
        have q_ge65 : decide ((65 : Int) ≤ (b.toNat : Int)) = false := by simp; omega
        have q_ge97 : decide ((97 : Int) ≤ (b.toNat : Int)) = false := by simp; omega
        have HD2 : Hid (chrT b = false) := Lib.hid (by rw [HDT.out]; simp; omega)
        have q_ne45 : ((b.toNat : Int) == 45) = false := by rw [beq_eq_false_iff_ne]; omega
        have p_ne45 : ((b.toNat : Int) != 45) = true := by rw [bne_iff_ne]; omega
        have q_ne95 : ((b.toNat : Int) == 95) = false := by rw [beq_eq_false_iff_ne]; omega
        have p_ne95 : ((b.toNat : Int) != 95) = true := by rw [bne_iff_ne]; omega
        clear HOK HOK2 HDT HSN HB HA
        go_wp2_with (go_at_call 133; refine (HDg.out _).mono ?_; rintro e wx ⟨rfl, rfl⟩; rw [HD2.out])
        go_ret
        exact ⟨by rw [HF.out]; rfl, rfl⟩
      · have HF : Hid (nameF s = false) := Lib.hid (by unfold nameF; rw [HB.out (HOK2.out.2 (by omega))]; rfl)
        have q_ge65 : decide ((65 : Int) ≤ (b.toNat : Int)) = false := by simp; omega
        have q_ge97 : decide ((97 : Int) ≤ (b.toNat : Int)) = false := by simp; omega
        have HD2 : Hid (chrT b = false) := Lib.hid (by rw [HDT.out]; simp; omega)
        have q_ne45 : ((b.toNat : Int) == 45) = false := by rw [beq_eq_false_iff_ne]; omega
        have p_ne45 : ((b.toNat : Int) != 45) = true := by rw [bne_iff_ne]; omega
        have q_ne95 : ((b.toNat : Int) == 95) = false := by rw [beq_eq_false_iff_ne]; omega
        have p_ne95 : ((b.toNat : Int) != 95) = true := by rw [bne_iff_ne]; omega
        clear HOK HOK2 HDT HSN HB HA
        go_wp2_with (go_at_call 133; refine (HDg.out _).mono ?_; rintro e wx ⟨rfl, rfl⟩; rw [HD2.out])
        go_ret
        exact ⟨by rw [HF.out]; rfl, rfl⟩
      · have HF : Hid (nameF s = false) := Lib.hid (by unfold nameF; rw [HB.out (HOK2.out.2 (by omega))]; rfl)
        have q_ge65 : decide ((65 : Int) ≤ (b.toNat : Int)) = false := by simp; omega
        have q_ge97 : decide ((97 : Int) ≤ (b.toNat : Int)) = false := by simp; omega
        have HD2 : Hid (chrT b = false) := Lib.hid (by rw [HDT.out]; simp; omega)
        have q_ne45 : ((b.toNat : Int) == 45) = false := by rw [beq_eq_false_iff_ne]; omega
        have p_ne45 : ((b.toNat : Int) != 45) = true := by rw [bne_iff_ne]; omega
        have q_ne95 : ((b.toNat : Int) == 95) = false := by rw [beq_eq_false_iff_ne]; omega
        have p_ne95 : ((b.toNat : Int) != 95) = true := by rw [bne_iff_ne]; omega
        clear HOK HOK2 HDT HSN HB HA
        go_wp2_with (go_at_call 133; refine (HDg.out _).mono ?_; rintro e wx ⟨rfl, rfl⟩; rw [HD2.out])
        go_ret
        exact ⟨by rw [HF.out]; rfl, rfl⟩
      · have HF : Hid (nameF s = false) := Lib.hid (by unfold nameF; rw [HB.out (HOK2.out.2 (by omega))]; rfl)
        have q_ge65 : decide ((65 : Int) ≤ (b.toNat : Int)) = true := by simp; omega
        have q_le90 : decide ((b.toNat : Int) ≤ 90) = false := by simp; omega
        have q_ge97 : decide ((97 : Int) ≤ (b.toNat : Int)) = false := by simp; omega
        have HD2 : Hid (chrT b = false) := Lib.hid (by rw [HDT.out]; simp; omega)
        have q_ne45 : ((b.toNat : Int) == 45) = false := by rw [beq_eq_false_iff_ne]; omega
        have p_ne45 : ((b.toNat : Int) != 45) = true := by rw [bne_iff_ne]; omega
        have q_ne95 : ((b.toNat : Int) == 95) = false := by rw [beq_eq_false_iff_ne]; omega
        have p_ne95 : ((b.toNat : Int) != 95) = true := by rw [bne_iff_ne]; omega
        clear HOK HOK2 HDT HSN HB HA
        go_wp2_with (go_at_call 133; refine (HDg.out _).mono ?_; rintro e wx ⟨rfl, rfl⟩; rw [HD2.out])
        go_ret
        exact ⟨by rw [HF.out]; rfl, rfl⟩
      · have HF : Hid (nameF s = false) := Lib.hid (by unfold nameF; rw [HB.out (HOK2.out.2 (by omega))]; rfl)
        have q_ge65 : decide ((65 : Int) ≤ (b.toNat : Int)) = true := by simp; omega
        have q_le90 : decide ((b.toNat : Int) ≤ 90) = false := by simp; omega
        have q_ge97 : decide ((97 : Int) ≤ (b.toNat : Int)) = true := by simp; omega
        have q_le122 : decide ((b.toNat : Int) ≤ 122) = false := by simp; omega
        have HD2 : Hid (chrT b = false) := Lib.hid (by rw [HDT.out]; simp; omega)
        have q_ne45 : ((b.toNat : Int) == 45) = false := by rw [beq_eq_false_iff_ne]; omega
        have p_ne45 : ((b.toNat : Int) != 45) = true := by rw [bne_iff_ne]; omega
        have q_ne95 : ((b.toNat : Int) == 95) = false := by rw [beq_eq_false_iff_ne]; omega
        have p_ne95 : ((b.toNat : Int) != 95) = true := by rw [bne_iff_ne]; omega
        clear HOK HOK2 HDT HSN HB HA
        go_wp2_with (go_at_call 133; refine (HDg.out _).mono ?_; rintro e wx ⟨rfl, rfl⟩; rw [HD2.out])
        go_ret
        exact ⟨by rw [HF.out]; rfl, rfl⟩
    · obtain rfl : k = s.length := by omega
      have hA := HA.out
      rw [List.take_length] at hA
      have HR : Hid (nameF s = !s.isEmpty) := Lib.hid (by unfold nameF; rw [hA]; rfl)
      clear hA HA hlt
      rcases hE : s.isEmpty with _ | _
      · rw [hE] at HR
        go_wp2_with fail
        go_ret
        refine ⟨?_, rfl⟩
        rw [HR.out]
        first | rfl | (show Ending.returned (.bool _) = .returned (.bool true); simp [bne, hE])
      · rw [hE] at HR
        go_wp2_with fail
        go_ret
        refine ⟨?_, rfl⟩
        rw [HR.out]
        first | rfl | (show Ending.returned (.bool _) = .returned (.bool false); simp [bne, hE])
theorem field_snoc_dup {ps : List PairD} {p : PairD} {t : List UInt8} (h : isN t p = true) (hm : manyL ps t ≠ 0) : fieldL (ps ++ [p]) t = none := by
  unfold fieldL
  rw [List.findIdx?_append]
  rcases hf : ps.findIdx? (isN t) with _ | k
  · exfalso
    apply hm
    unfold manyL
    rw [List.countP_eq_zero]
    intro q hq
    have := List.findIdx?_eq_none_iff.1 hf q hq
    unfold isN at this
    simpa using this
  · have hk := (List.findIdx?_eq_some_iff_findIdx_eq.1 hf).1
    show (if (List.drop (k + 1) (ps ++ [p])).any (isN t) = true then none else some (gU (ps ++ [p]) k).2) = none
    rw [List.drop_append_of_le_length (by omega), List.any_append]
    simp [h]
theorem many_one (ps : List PairD) (p : PairD) (t : List UInt8) : manyL (ps ++ [p]) t = manyL ps t + if isN t p = true then 1 else 0 := by
  rw [many_app]
  congr 1
  unfold manyL isN
  simp only [List.countP_cons, List.countP_nil, Nat.zero_add]
def FldAt (ps : List PairD) (t : List UInt8) (k n : Nat) (v : List UInt8) : Prop := manyL (ps.take k) t = n ∧ fieldL (ps.take k) t = if n = 1 then some v else none
theorem FldAt.no {ps : List PairD} {t : List UInt8} {k n : Nat} {v : List UInt8} (h : FldAt ps t k n v) (hk : k < ps.length) (hn : smL (gU ps k).1 ≠ smL t) : FldAt ps t (k + 1) n v := by
  have hi := isN_ne hn
  unfold FldAt
  rw [take_snocP ps k hk, many_one, hi, field_snoc_no hi]
  exact ⟨by rw [h.1]; rfl, h.2⟩
theorem FldAt.yes {ps : List PairD} {t : List UInt8} {k n : Nat} {v : List UInt8} (h : FldAt ps t k n v) (hk : k < ps.length) (hn : smL (gU ps k).1 = smL t) : FldAt ps t (k + 1) (n + 1) (gU ps k).2 := by
  have hi : isN t (gU ps k) = true := by unfold isN; simpa using hn
  unfold FldAt
  rw [take_snocP ps k hk, many_one, hi]
  refine ⟨by rw [h.1]; rfl, ?_⟩
  by_cases h0 : n = 0
  · subst h0
    rw [field_new h.1 hi, if_pos rfl]
  · rw [field_snoc_dup hi (by rw [h.1]; exact h0), if_neg (by omega)]
set_option maxRecDepth 100000 in
set_option maxHeartbeats 4000000 in
theorem RField_any (A : Option Addr) (n cap : Nat) (ps : List PairD) (t : List UInt8) (w : World) (h : PairsAt w A n ps) (hn : n ≤ 10000000) (hps : ∀ p ∈ ps, p.1.length ≤ 10000000 ∧ p.2.length ≤ 10000000) (ht : t.length ≤ 100000000) :
    Calls Tryz.prog 40 #[.slice A n cap, .string ⟨t.toArray⟩] w fun e w' => e = .returned (.tuple #[.string ⟨((fieldL ps t).getD []).toArray⟩, .bool (fieldL ps t).isSome]) ∧ Q w w' := by
  obtain rfl := h.1
  have HP := Lib.hid h
  have HPS := Lib.hid hps
  have HSm := Lib.hid (fun (l : List UInt8) W (hl : l.length ≤ 100000000) => RSmall_any l W hl)
  clear h hps
  obtain ⟨T, hT⟩ : ∃ T, smL t = T := ⟨_, rfl⟩
  have HTs : Hid (∀ W, Calls Tryz.prog 85 #[.string ⟨t.toArray⟩] W fun e w' => e = .returned (.string ⟨T.toArray⟩) ∧ Q W w') := Lib.hid (fun W => by rw [← hT]; exact HSm.out t W ht)
  have HT := Lib.hid hT
  clear hT
  go_enter Tryz.func40, Tryz.ntmps40
  go_wp2_with fail
  refine (HTs.out _).mono ?_
  rintro e w0 ⟨rfl, hq0⟩
  have HQ0 := Lib.hid hq0
  clear hq0
  go_wp2_with fail
  go_loopw [6, 7, 9] (fun nv vv i wr => ∃ (k D : Nat) (v : List UInt8), k ≤ ps.length ∧ D ≤ k ∧ nv = .int .i64 (D : Int) ∧ vv = .string ⟨v.toArray⟩ ∧ i = .int .i64 (k : Int) ∧ Hid (FldAt ps t k D v) ∧ Hid (Q w wr)) (fun _ _ i _ => ps.length - (intOf i).toNat)
  case atStart => exact ⟨0, 0, [], by omega, by omega, rfl, rfl, rfl, Lib.hid ⟨by simp [manyL], by simp [fieldL]⟩, HQ0⟩
  case round =>
    obtain ⟨k, D, v, hk, hDk, rfl, rfl, rfl, HD, HQ⟩ := hrel
    by_cases hlt : k < ps.length
    · have g1 : decide (k < ps.length) = true := by simpa using hlt
      obtain ⟨g, off, rfl, e0, e1⟩ := (HP.out.q HQ.out).at hlt
      obtain ⟨⟨x, y⟩, hxy⟩ : ∃ p, gU ps k = p := ⟨_, rfl⟩
      have HXY := Lib.hid hxy
      rw [hxy] at e0 e1
      simp only at e0 e1
      have hxl : x.length ≤ 10000000 := by
        have := HPS.out _ (List.getElem_mem hlt)
        rw [← gU_get _ _ hlt, hxy] at this; exact this.1
      have HLT := Lib.hid hlt
      clear hxy
      rename World => wa
      go_wp2_with fail
      refine (HSm.out x _ (by omega)).mono ?_
      rintro e wb ⟨rfl, hqb⟩
      have e1b := hqb.cell e1
      have HQb := Lib.hid (HQ.out.trans hqb)
      clear hqb e0 e1
      by_cases hsm : smL x = T
      · have q1 : (smL x == T) = true := by simpa using hsm
        have HN : Hid (FldAt ps t (k + 1) (D + 1) y) := Lib.hid (by have := HD.out.yes HLT.out (by rw [HXY.out]; exact hsm.trans HT.out.symm); rw [HXY.out] at this; exact this)
        clear hsm
        generalize smL x = X at q1 ⊢
        go_wp2_with fail
        go_roundw
        case rel => exact ⟨k + 1, D + 1, y, by omega, by omega, by go_num, rfl, by go_num, HN, HQb⟩
        case measure => simp [intOf]; omega
      · have q1 : (smL x == T) = false := by simpa using hsm
        have HN : Hid (FldAt ps t (k + 1) D v) := Lib.hid (HD.out.no HLT.out (by rw [HXY.out]; exact fun e => hsm (e.trans HT.out)))
        clear hsm
        generalize smL x = X at q1 ⊢
        go_wp2_with fail
        go_roundw
        case rel => exact ⟨k + 1, D, v, by omega, by omega, rfl, rfl, by go_num, HN, HQb⟩
        case measure => simp [intOf]; omega
    · obtain rfl : k = ps.length := by omega
      have hd := HD.out
      unfold FldAt at hd
      rw [List.take_length] at hd
      have HDD := Lib.hid hd.2
      clear hd HD hlt
      by_cases h1 : D = 1
      · have q1 : ((D : Int) != 1) = false := by rw [h1]; rfl
        have HF : Hid (fieldL ps t = some v) := Lib.hid (by rw [HDD.out, if_pos h1])
        clear h1
        go_wp2_with fail
        go_ret2
        exact ⟨by rw [HF.out]; rfl, HQ.out⟩
      · have q1 : ((D : Int) != 1) = true := by simp only [bne_iff_ne, ne_eq]; omega
        have HF : Hid (fieldL ps t = none) := Lib.hid (by rw [HDD.out, if_neg h1])
        clear h1
        go_wp2_with fail
        go_ret2
        exact ⟨by rw [HF.out]; rfl, HQ.out⟩
set_option maxRecDepth 100000 in
set_option maxHeartbeats 4000000 in
theorem RCount_any (A : Option Addr) (n cap : Nat) (ps : List PairD) (t : List UInt8) (w : World) (h : PairsAt w A n ps) (hn : n ≤ 10000000) (hps : ∀ p ∈ ps, p.1.length ≤ 10000000 ∧ p.2.length ≤ 10000000) (ht : smL t = t) :
    Calls Tryz.prog 50 #[.slice A n cap, .string ⟨t.toArray⟩] w fun e w' => e = .returned (.int .i64 (manyL ps t : Nat)) ∧ Q w w' := by
  obtain rfl := h.1
  have HP := Lib.hid h
  have HPS := Lib.hid hps
  have HT := Lib.hid ht
  have HSm := Lib.hid (fun (l : List UInt8) W (hl : l.length ≤ 100000000) => RSmall_any l W hl)
  clear h hps ht
  go_enter Tryz.func50, Tryz.ntmps50
  go_wp2_with fail
  go_loopw [5, 6] (fun nv i wr => ∃ (k D : Nat), k ≤ ps.length ∧ D ≤ k ∧ nv = .int .i64 (D : Int) ∧ i = .int .i64 (k : Int) ∧ Hid (manyL (ps.take k) t = D) ∧ Hid (Q w wr)) (fun _ i _ => ps.length - (intOf i).toNat)
  case atStart => exact ⟨0, 0, by omega, by omega, rfl, rfl, Lib.hid (by simp [manyL]), Lib.hid (Q.refl _)⟩
  case round =>
    obtain ⟨k, D, hk, hDk, rfl, rfl, HD, HQ⟩ := hrel
    by_cases hlt : k < ps.length
    · have g1 : decide (k < ps.length) = true := by simpa using hlt
      obtain ⟨g, off, rfl, e0, e1⟩ := (HP.out.q HQ.out).at hlt
      have HSN := Lib.hid (many_snoc ps t k hlt)
      obtain ⟨⟨x, y⟩, hxy⟩ : ∃ p, gU ps k = p := ⟨_, rfl⟩
      rw [hxy] at e0 e1 HSN
      simp only at e0 e1 HSN
      have hxl : x.length ≤ 10000000 := by
        have := HPS.out _ (List.getElem_mem hlt)
        rw [← gU_get _ _ hlt, hxy] at this; exact this.1
      clear hxy
      rename World => wa
      go_wp2_with fail
      refine (HSm.out x _ (by omega)).mono ?_
      rintro e wb ⟨rfl, hqb⟩
      have HQb := Lib.hid (HQ.out.trans hqb)
      clear hqb e0 e1
      by_cases hsm : smL x = t
      · have q1 : (smL x == t) = true := by simpa using hsm
        have HN : Hid (manyL (ps.take (k + 1)) t = D + 1) := Lib.hid (by rw [HSN.out, HD.out, if_pos (hsm.trans HT.out.symm)])
        clear hsm HSN
        generalize smL x = X at q1 ⊢
        go_wp2_with fail
        go_roundw
        case rel => exact ⟨k + 1, D + 1, by omega, by omega, by go_num, by go_num, HN, HQb⟩
        case measure => simp [intOf]; omega
      · have q1 : (smL x == t) = false := by simpa using hsm
        have HN : Hid (manyL (ps.take (k + 1)) t = D) := Lib.hid (by rw [HSN.out, HD.out, if_neg (fun e => hsm (e.trans HT.out))]; rfl)
        clear hsm HSN
        generalize smL x = X at q1 ⊢
        go_wp2_with fail
        go_roundw
        case rel => exact ⟨k + 1, D, by omega, by omega, rfl, by go_num, HN, HQb⟩
        case measure => simp [intOf]; omega
    · obtain rfl : k = ps.length := by omega
      have hd := HD.out
      rw [List.take_length] at hd
      have HDD := Lib.hid hd
      clear hd HD hlt
      go_wp2_with fail
      go_ret
      rw [HDD.out]
      exact ⟨rfl, HQ.out⟩
end Go.Proofs.YtmmoenbmgcplkaaGreatDoor
set_option linter.unusedVariables false
set_option linter.unusedSimpArgs false
namespace Go.Proofs.YtmmoenbmgcplkaaGreatDoor
open Go Go.RowKit
theorem take_snocG (ls : List (List UInt8)) (k : Nat) (h : k < ls.length) : ls.take (k + 1) = ls.take k ++ [gL ls k] := by
  rw [List.take_succ_eq_append_getElem h, gL_get ls k h]
theorem join_next (c : UInt8) (ls : List (List UInt8)) (k : Nat) (h : k < ls.length) : Lib.join (ls.take (k + 1)) [c] = if k = 0 then gL ls k else Lib.join (ls.take k) [c] ++ (c :: gL ls k) := by
  rw [take_snocG ls k h]
  by_cases h0 : k = 0
  · subst h0; rw [if_pos rfl, List.take_zero, List.nil_append, join_one]
  · rw [if_neg h0, join_snocC c _ _ (by intro e; have := congrArg List.length e; rw [List.length_take, List.length_nil] at this; omega)]
set_option maxRecDepth 100000 in
set_option maxHeartbeats 2000000 in
theorem RJoined_any (A : Option Addr) (n cap : Nat) (ls : List (List UInt8)) (c : UInt8) (w : World) (h : NmAt w A n ls) (hs : sumU ls ≤ 100000000) :
    Calls Tryz.prog 42 #[.slice A n cap, .string ⟨#[c]⟩] w fun e w' => e = .returned (.string ⟨(Lib.join ls [c]).toArray⟩) ∧ w' = w := by
  obtain rfl := h.1
  have HP := Lib.hid h
  have HS := Lib.hid hs
  have hlen : ls.length ≤ 100000000 := Nat.le_trans (len_sumU ls) hs
  clear h hs
  go_enter Tryz.func42, Tryz.ntmps42
  go_wp2_with fail
  go_loopw [5, 6] (fun sv i wr => ∃ (k : Nat) (s : List UInt8), k ≤ ls.length ∧ sv = .string ⟨s.toArray⟩ ∧ i = .int .i64 (k : Int) ∧ Hid (s = Lib.join (ls.take k) [c]) ∧ s.length ≤ 100000000 ∧ wr = w) (fun _ i _ => ls.length - (intOf i).toNat)
  case atStart => exact ⟨0, [], by omega, rfl, rfl, Lib.hid (by simp [Lib.join, List.intercalate]), by simp, rfl⟩
  case round =>
    obtain ⟨k, s, hk, rfl, rfl, HD, hsl, rfl⟩ := hrel
    by_cases hlt : k < ls.length
    · have g1 : decide (k < ls.length) = true := by simpa using hlt
      obtain ⟨g, off, rfl, e0⟩ := HP.out.at hlt
      have HN := Lib.hid (join_next c ls k hlt)
      have hjl : (Lib.join (ls.take (k + 1)) [c]).length ≤ 100000000 := Nat.le_trans (sum_len_join c _) (Nat.le_trans (sumU_take ls (k + 1)) HS.out)
      obtain ⟨x, hx⟩ : ∃ x, gL ls k = x := ⟨_, rfl⟩
      rw [hx] at e0 HN
      clear hx
      rcases k with _ | m
      · have HN2 : Hid (s ++ x = Lib.join (ls.take (0 + 1)) [c]) := Lib.hid (by rw [HN.out, if_pos rfl, HD.out]; simp [Lib.join, List.intercalate])
        have hl2 : (s ++ x).length ≤ 100000000 := by rw [HN2.out]; exact hjl
        have hxl : x.length ≤ 100000000 := by rw [List.length_append] at hl2; omega
        rw [Nat.add_zero] at e0
        rw [show ((0 : Nat) : Int) = 0 from rfl]
        clear HN HD hjl
        go_wp2_with fail
        go_roundw
        case rel => exact ⟨0 + 1, s ++ x, by omega, rfl, by go_num, HN2, hl2, trivial⟩
        case measure => simp [intOf]; omega
      · have HN2 : Hid (s ++ c :: x = Lib.join (ls.take (m + 1 + 1)) [c]) := Lib.hid (by rw [HN.out, if_neg (by omega), HD.out])
        have hl2 : (s ++ c :: x).length ≤ 100000000 := by rw [HN2.out]; exact hjl
        have hxl : x.length ≤ 100000000 := by rw [List.length_append, List.length_cons] at hl2; omega
        have hmi : 0 < (m : Int) + 1 := by omega
        clear HN HD hjl
        go_wp2_with fail
        go_roundw
        case rel => exact ⟨m + 1 + 1, s ++ c :: x, by omega, by simp, by go_num, HN2, hl2, trivial⟩
        case measure => simp [intOf]; omega
    · obtain rfl : k = ls.length := by omega
      have hd := HD.out
      rw [List.take_length] at hd
      have HDD := Lib.hid hd
      clear hd HD hlt
      go_wp2_with fail
      go_ret
      refine ⟨?_, rfl⟩
      rw [HDD.out]
      rfl
theorem stepQ_len (st : List UInt8 × Bool) (b : UInt8) : (stepQ st b).1.length ≤ st.1.length + 2 := by
  unfold stepQ
  split
  · simp
  · simp only
    split <;> simp
theorem fold_snocQ (s : List UInt8) (k : Nat) (h : k < s.length) : (s.take (k + 1)).foldl stepQ ([], false) = stepQ ((s.take k).foldl stepQ ([], false)) (gB s k) := by
  rw [take_snocB s k h, List.foldl_append]; rfl
theorem fold_lenQ (s : List UInt8) : ∀ k, k ≤ s.length → ((s.take k).foldl stepQ ([], false)).1.length ≤ 2 * k := by
  intro k
  induction k with
  | zero => intro _; simp
  | succ k ih =>
    intro h
    rw [fold_snocQ s k (by omega)]
    have := stepQ_len ((s.take k).foldl stepQ ([], false)) (gB s k)
    have := ih (by omega)
    omega
set_option maxRecDepth 100000 in
set_option maxHeartbeats 4000000 in
theorem RSqueezed_any (s : List UInt8) (w : World) (hl : s.length ≤ 100000000) : Calls Tryz.prog 41 #[.string ⟨s.toArray⟩] w fun e w' => e = .returned (.string ⟨(squeezeL s).toArray⟩) ∧ Q w w' := by
  rw [squeeze_eq]
  have HLN := Lib.hid (fold_lenQ s)
  go_enter Tryz.func41, Tryz.ntmps41
  go_wp2_with fail
  go_loopw [3, 4, 5] (fun v g i wr => ∃ (k : Nat) (o : List UInt8) (gb : Bool), k ≤ s.length ∧ g = .bool gb ∧ i = .int .i64 k ∧ Hid ((s.take k).foldl stepQ ([], false) = (o, gb)) ∧ Hid (OwnB w wr v o) ∧ o.length ≤ 200000000 ∧ Hid (Q w wr)) (fun _ _ i _ => s.length - (intOf i).toNat)
  case atStart => exact ⟨0, [], false, by omega, rfl, rfl, Lib.hid rfl, Lib.hid (OwnB.nil _ _), by simp, Lib.hid (Q.refl _)⟩
  case round =>
    obtain ⟨k, o, gb, hk, rfl, rfl, HF, HO, hol, HQ⟩ := hrel
    by_cases hlt : k < s.length
    · have g1 : decide (k < s.length) = true := by simpa using hlt
      have HN := Lib.hid (fold_snocQ s k hlt)
      have hn2 := HLN.out (k + 1) (by omega)
      rw [HN.out, HF.out] at hn2
      obtain ⟨b, hb⟩ : ∃ b, gB s k = b := ⟨_, rfl⟩
      rw [hb] at HN hn2
      have hb8 := b.toNat_lt
      have hbk := blkB_nat b
      by_cases h32 : b.toNat = 32 ∨ b.toNat = 9
      · have HB : Hid (blkB b = true) := Lib.hid (by rw [hbk]; simpa using h32)
        have HN2 : Hid ((s.take (k + 1)).foldl stepQ ([], false) = (o, !o.isEmpty)) := Lib.hid (by rw [HN.out, HF.out]; unfold stepQ; rw [if_pos HB.out])
        obtain ⟨ad, cap, rfl, -⟩ := HO.out.form
        have HE : Hid (decide (0 < o.length) = !o.isEmpty) := Lib.hid (by rcases o with _ | ⟨x, r⟩ <;> simp)
        clear HN HF hbk hn2
        by_cases e32 : b.toNat = 32
        · have q1 : ((b.toNat : Int) == 32) = true := by rw [beq_iff_eq]; omega
          clear h32 e32
          go_wp2_with fail
          go_roundw
          case rel => exact ⟨k + 1, o, !o.isEmpty, by omega, by rw [← HE.out], by go_num, HN2, HO, hol, HQ⟩
          case measure => simp [intOf]; omega
        · have q1 : ((b.toNat : Int) == 32) = false := by rw [beq_eq_false_iff_ne]; omega
          have q2 : ((b.toNat : Int) == 9) = true := by rw [beq_iff_eq]; omega
          clear h32 e32
          go_wp2_with fail
          go_roundw
          case rel => exact ⟨k + 1, o, !o.isEmpty, by omega, by rw [← HE.out], by go_num, HN2, HO, hol, HQ⟩
          case measure => simp [intOf]; omega
      · have HB : Hid (blkB b = false) := Lib.hid (by rw [hbk]; simpa using h32)
        have q1 : ((b.toNat : Int) == 32) = false := by rw [beq_eq_false_iff_ne]; omega
        have q2 : ((b.toNat : Int) == 9) = false := by rw [beq_eq_false_iff_ne]; omega
        rcases gb with _ | _
        · have HN2 : Hid ((s.take (k + 1)).foldl stepQ ([], false) = (o ++ [b], false)) := Lib.hid (by rw [HN.out, HF.out]; unfold stepQ; rw [if_neg (by rw [HB.out]; decide)]; rfl)
          have hol2 : (o ++ [b]).length ≤ 200000000 := by
            have := HLN.out (k + 1) (by omega)
            rw [HN2.out] at this; simp only at this; omega
          clear HN HF hbk hn2 h32
          go_wp2_with (at_builtin; refine wpList_append_b rfl (.tmp 29) (.tmp 33) rfl w _ _ _ rfl HO.out HQ.out [b] 1 rfl rfl (by constructor <;> omega) ?_)
          intro v2 w2 ho2 hq2 _ _
          have HO2 := Lib.hid ho2
          have HQ2 := Lib.hid hq2
          clear ho2 hq2 HO HQ
          go_wp2_with fail
          go_roundw
          case rel => exact ⟨k + 1, o ++ [b], false, by omega, rfl, by go_num, HN2, HO2, hol2, HQ2⟩
          case measure => simp [intOf]; omega
        · have HN2 : Hid ((s.take (k + 1)).foldl stepQ ([], false) = ((o ++ [32]) ++ [b], false)) := Lib.hid (by rw [HN.out, HF.out]; unfold stepQ; rw [if_neg (by rw [HB.out]; decide)]; simp)
          have hol2 : ((o ++ [32]) ++ [b]).length ≤ 200000000 := by
            have := HLN.out (k + 1) (by omega)
            rw [HN2.out] at this; simp only at this; omega
          have hol3 : (o ++ [32]).length ≤ 200000000 := by rw [List.length_append] at hol2; omega
          clear HN HF hbk hn2 h32
          go_wp2_with (at_builtin; refine wpList_append_b rfl (.tmp 26) (.tmp 27) rfl w _ _ _ rfl HO.out HQ.out [32] 1 rfl rfl (by constructor <;> omega) ?_)
          intro v1 w1 ho1 hq1 _ _
          have HO1 := Lib.hid ho1
          have HQ1 := Lib.hid hq1
          clear ho1 hq1 HO HQ
          go_wp2_with (at_builtin; refine wpList_append_b rfl (.tmp 29) (.tmp 33) rfl w _ _ _ rfl HO1.out HQ1.out [b] 1 rfl rfl (by constructor <;> omega) ?_)
          intro v2 w2 ho2 hq2 _ _
          have HO2 := Lib.hid ho2
          have HQ2 := Lib.hid hq2
          clear ho2 hq2 HO1 HQ1
          go_wp2_with fail
          go_roundw
          case rel => exact ⟨k + 1, (o ++ [32]) ++ [b], false, by omega, rfl, by go_num, HN2, Lib.hid (by have := HO2.out; simpa using this), hol2, HQ2⟩
          case measure => simp [intOf]; omega
    · obtain rfl : k = s.length := by omega
      have hd := HF.out
      rw [List.take_length] at hd
      have HR : Hid (squeezeR s = o) := Lib.hid (by unfold squeezeR; rw [hd])
      have hcv := conv_b HO.out
      clear hd HF hlt
      go_wp2_with fail
      go_ret
      rw [HR.out]
      exact ⟨rfl, HQ.out⟩
end Go.Proofs.YtmmoenbmgcplkaaGreatDoor
set_option linter.unusedVariables false
namespace Go.Proofs.YtmmoenbmgcplkaaGreatDoor
open Go Go.RowKit
theorem rr_bits (k : Nat) (x : B32) : bits .or .u32 ((x.toNat : Int) / 2 ^ k) (IntKind.u32.wrap ((x.toNat : Int) * 2 ^ (32 - k))) = (((x >>> k) ||| (x <<< (32 - k))).toNat : Int) := by
  rw [← or32]
  congr 1
  · rw [BitVec.toNat_ushiftRight, Nat.shiftRight_eq_div_pow, Int.natCast_ediv, Int.natCast_pow]; rfl
  · rw [IntKind.wrap_u32, BitVec.toNat_shiftLeft, Nat.shiftLeft_eq, Int.natCast_emod, Int.natCast_mul, Int.natCast_pow]; rfl
theorem tr_or (k : Nat) (hk : k ≤ 32) (x : B32) : (x >>> k) ||| (x <<< (32 - k)) = tr (k : Int) x := by
  unfold tr rl
  rw [BitVec.or_comm, Int.toNat_natCast, show 32 - (32 - k) = k from by omega]
set_option maxHeartbeats 1000000 in
theorem right01_any (x : B32) (n : Nat) (w : World) (h0 : 0 < n) (h1 : n < 32) : Calls Tryz.prog 135 #[.int .u32 (x.toNat : Int), .int .i64 (n : Int)] w fun e w' => e = .returned (.int .u32 ((tr (n : Int) x).toNat : Int)) ∧ Q w w' := by
  have hb := rr_bits n x
  have hb2 := hb
  rw [IntKind.wrap_u32] at hb2
  rw [tr_or n (by omega)] at hb hb2
  go_enter Tryz.func135, Tryz.ntmps135
  go_wp2_with fail
  refine wp_region_q (by kernel_rfl) (by kernel_rfl) ?_
  repeat (go_big_quiet_step (fail))
  refine wpQuiet_nil ?_
  rintro _ ⟨⟨w1, hq1⟩, rfl⟩
  go_wp2_with fail
  go_ret
  exact ⟨rfl, hq1⟩
theorem rightK (x : B32) (k : Int) (w : World) (h0 : 0 < k) (h1 : k < 32) : Calls Tryz.prog 135 #[.int .u32 (x.toNat : Int), .int .i64 k] w fun e w' => e = .returned (.int .u32 ((tr k x).toNat : Int)) ∧ Q w w' := by
  have h := right01_any x k.toNat w (by omega) (by omega)
  rw [show ((k.toNat : Nat) : Int) = k from by omega] at h
  exact h
theorem bytesL_lo (k : Nat) (hk : k < 8) {n : Nat} : gB (bytesL false n 8) k = byN n k := by
  unfold bytesL gB; simp [List.getD, hk]
theorem bytesL_hi (k : Nat) (hk : k < 8) {n : Nat} : gB (bytesL true n 8) k = byN n (7 - k) := by
  unfold bytesL gB; simp [List.getD, hk]
def lenS : Value → Nat
  | .slice _ n _ => n
  | _ => 0
def fillN (n : Nat) : Nat := (119 - n % 64) % 64
set_option maxRecDepth 100000 in
set_option maxHeartbeats 4000000 in
theorem padded_any (l : List UInt8) (hi : Bool) (w : World) (hl : l.length ≤ 140737488355500) :
    Calls Tryz.prog 134 #[.string ⟨l.toArray⟩, .bool hi] w fun e w' => ∃ v, e = .returned v ∧ OwnB w w' v (padA hi l) ∧ Q w w' := by
  obtain ⟨v1, w1, hcv, hown1, hq1, cap1, hv1⟩ := bytes_of l w (by omega)
  rw [hv1] at hcv hown1
  have HO := Lib.hid hown1
  have HQ := Lib.hid hq1
  clear hown1 hq1 hv1
  go_enter Tryz.func134, Tryz.ntmps134
  go_upto_region 2 with (fail)
  clear hcv
  go_wp2_with (at_builtin; refine wpList_append_b rfl (.tmp 11) (.tmp 12) rfl w w1 _ l (by rfl) HO.out HQ.out [128] 1 rfl (by rfl) (by omega) ?_; intro v2 w2 hown2 hq2 _; have HO2 := Lib.hid hown2; have HQ2 := Lib.hid hq2; clear hown2 hq2)
  clear HO HQ
  go_loopw [5] (fun v wr => ∃ (k L : Nat) (A : Option Addr) (cap : Nat), k ≤ fillN l.length ∧ Hid (L = l.length + 1 + k) ∧ L ≤ 140737488355650 ∧ v = .slice A L cap ∧ OwnB w wr (.slice A L cap) (l ++ 128 :: List.replicate k 0) ∧ Q w wr) (fun v _ => l.length + 1 + fillN l.length - lenS v)
  case atStart =>
    obtain ⟨A, cap, hv, _⟩ := HO2.out.form
    have e : (l ++ [(128 : UInt8)]).length = l.length + 1 := by simp
    rw [e] at hv
    have h2 := HO2.out
    rw [hv] at h2
    exact ⟨0, l.length + 1, A, cap, by omega, Lib.hid rfl, by omega, hv, h2, HQ2.out⟩
  case round =>
    obtain ⟨k, L, A, cap, hk, hL, hL2, rfl, hown, hq⟩ := hrel
    have hLe := hL.out
    by_cases hlt : k < fillN l.length
    · have hb : ((L : Int) % 64 != 56) = true := by unfold fillN at hlt; rw [hLe]; simp; omega
      have hlen : (l ++ 128 :: List.replicate k (0 : UInt8)).length = L := by rw [hLe]; simp; omega
      have HK := Lib.hid hk
      have HLL := Lib.hid hlen
      have HOO := Lib.hid hown
      have HQQ := Lib.hid hq
      clear hLe hown hq hlen hk HO2 HQ2
      go_wp2_with (at_builtin; refine wpList_append_b rfl (.tmp 18) (.tmp 19) rfl w wr _ (l ++ 128 :: List.replicate k 0) (by rfl) HOO.out HQQ.out [0] 1 rfl (by rfl) (by rw [HLL.out]; omega) ?_; intro v2 w3 hown2 hq2 _; have HO2 := Lib.hid hown2; have HQ2 := Lib.hid hq2; clear hown2 hq2)
      go_roundw
      case rel =>
        obtain ⟨A', cap', hv, _⟩ := HO2.out.form
        have e : l ++ 128 :: List.replicate k (0 : UInt8) ++ [0] = l ++ 128 :: List.replicate (k + 1) 0 := by rw [List.replicate_succ']; simp
        have e2 : (l ++ 128 :: List.replicate k (0 : UInt8) ++ [0]).length = L + 1 := by rw [List.length_append, HLL.out]; rfl
        rw [e2] at hv
        have h2 := HO2.out
        rw [hv, e] at h2
        exact ⟨k + 1, L + 1, A', cap', by omega, Lib.hid (by rw [hL.out]; omega), by have := hL.out; unfold fillN at hlt; omega, hv, h2, HQ2.out⟩
      case measure =>
        obtain ⟨A', cap', hv, _⟩ := HO2.out.form
        have e2 : (l ++ 128 :: List.replicate k (0 : UInt8) ++ [0]).length = L + 1 := by rw [List.length_append, HLL.out]; rfl
        rw [e2] at hv
        rw [hv]
        have := hL.out
        show l.length + 1 + fillN l.length - (L + 1) < l.length + 1 + fillN l.length - L
        omega
    · have hkk : k = fillN l.length := by omega
      have hb : ((L : Int) % 64 != 56) = false := by unfold fillN at hkk; rw [hLe, hkk]; simp; omega
      have hw8 : IntKind.u64.wrap ((l.length : Int) * 8) = ((8 * l.length % 18446744073709551616 : Nat) : Int) := by rw [IntWalk_u64]; omega
      have hpad : padA hi l = l ++ 128 :: List.replicate k 0 ++ bytesL hi (8 * l.length % 18446744073709551616) 8 := by unfold padA; rw [hkk]; rfl
      have hl3 : (l ++ 128 :: List.replicate k (0 : UInt8)).length ≤ 140737488355650 := by rw [show (l ++ 128 :: List.replicate k (0 : UInt8)).length = L from by rw [hLe]; simp; omega]; omega
      generalize 8 * l.length % 18446744073709551616 = S8 at *
      generalize l ++ 128 :: List.replicate k (0 : UInt8) = B at *
      have HPAD := Lib.hid hpad
      have HL3 := Lib.hid hl3
      have HOO := Lib.hid hown
      have HQQ := Lib.hid hq
      clear hLe hown hq hkk hpad hL HO2 HQ2 hl3 hlt
      go_wp2_with fail
      clear hw8 hb hL2
      go_loopw [5, 7] (fun v i wz => ∃ k : Nat, k ≤ 8 ∧ i = .int .i64 k ∧ OwnB w wz v (B ++ (bytesL hi S8 8).take k) ∧ Q w wz) (fun _ i _ => 8 - (intOf i).toNat)
      case atStart => exact ⟨0, by omega, rfl, by simpa using HOO.out, HQQ.out⟩
      case round =>
        obtain ⟨k, hk, rfl, hown, hq⟩ := hrel
        by_cases hlt : k < 8
        · have hd : decide ((k : Int) < 8) = true := by simp; omega
          have hsn : (bytesL hi S8 8).take (k + 1) = (bytesL hi S8 8).take k ++ [gB (bytesL hi S8 8) k] := by
            rw [List.take_succ_eq_append_getElem (by rw [bytesL_length]; exact hlt)]
            simp [gB, List.getD, bytesL_length, hlt]
          have hlk : (B ++ (bytesL hi S8 8).take k).length + 1 ≤ 140737488355660 := by rw [List.length_append, List.length_take, bytesL_length]; have := HL3.out; omega
          have HSN := Lib.hid hsn
          have HLK := Lib.hid hlk
          have HOZ := Lib.hid hown
          have HQZ := Lib.hid hq
          clear hsn hlk hown hq HOO HQQ
          cases hi
          · have hx : (S8 : Int) / 2 ^ (8 * k) % 256 = ((gB (bytesL false S8 8) k).toNat : Int) := by rw [shr8, bytesL_lo k hlt]
            go_wp2_with (at_builtin; refine wpList_append_b rfl (.tmp 35) (.tmp 40) rfl w wr _ (B ++ (bytesL false S8 8).take k) (by rfl) HOZ.out HQZ.out [gB (bytesL false S8 8) k] 1 rfl (by rfl) (by have := HLK.out; omega) ?_; intro v2 w3 hown2 hq2 _; have HO2 := Lib.hid hown2; have HQ2 := Lib.hid hq2; clear hown2 hq2)
            go_roundw
            case rel => exact ⟨k + 1, by omega, by go_num, by rw [HSN.out, ← List.append_assoc]; exact HO2.out, HQ2.out⟩
            case measure => simp [intOf]; omega
          · have hx : (S8 : Int) / 2 ^ (56 - 8 * k) % 256 = ((gB (bytesL true S8 8) k).toNat : Int) := by rw [show 56 - 8 * k = 8 * (7 - k) from by omega, shr8, bytesL_hi k hlt]
            go_wp2_with (at_builtin; refine wpList_append_b rfl (.tmp 35) (.tmp 40) rfl w wr _ (B ++ (bytesL true S8 8).take k) (by rfl) HOZ.out HQZ.out [gB (bytesL true S8 8) k] 1 rfl (by rfl) (by have := HLK.out; omega) ?_; intro v2 w3 hown2 hq2 _; have HO2 := Lib.hid hown2; have HQ2 := Lib.hid hq2; clear hown2 hq2)
            go_roundw
            case rel => exact ⟨k + 1, by omega, by go_num, by rw [HSN.out, ← List.append_assoc]; exact HO2.out, HQ2.out⟩
            case measure => simp [intOf]; omega
        · obtain rfl : k = 8 := by omega
          rw [List.take_of_length_le (by rw [bytesL_length]; exact Nat.le_refl _), ← HPAD.out] at hown
          have HOZ := Lib.hid hown
          have HQZ := Lib.hid hq
          clear hown hq
          go_wp2_with fail
          go_ret
          exact ⟨_, rfl, HOZ.out, HQZ.out⟩
end Go.Proofs.YtmmoenbmgcplkaaGreatDoor
