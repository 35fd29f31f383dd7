/- Texts of this proof, laid into one: VaH, VaJ, UrW. -/
import Derived.Test.YtlalpnnnnmcejaaGreatDoorMx07
import Derived.Test.YtlalpnnnnmcejaaGreatDoorRows
import Derived.SizedLaws
import Derived.Deep.Slices
/- The document's Bucket (printed by wip/genvah.py). -/
set_option linter.unusedVariables false
set_option linter.unusedSimpArgs false
namespace Go.Proofs.YtlalpnnnnmcejaaGreatDoor
open Go Go.RowKit
theorem eq_nat (x y : UInt8) : (x == y) = decide (x.toNat = y.toNat) := by
  rw [Bool.eq_iff_iff, beq_iff_eq, decide_eq_true_eq]
  exact ⟨fun h => by rw [h], fun h => UInt8.toNat_inj.1 h⟩
theorem okCond_iff (p b : UInt8) : okCond p b = true ↔ ((97 ≤ b.toNat ∧ b.toNat ≤ 122) ∨ (48 ≤ b.toNat ∧ b.toNat ≤ 57) ∨ (b.toNat = 45 ∧ p.toNat ≠ 46) ∨ (b.toNat = 46 ∧ p.toNat ≠ 46 ∧ p.toNat ≠ 45)) := by
  unfold okCond chrOk smallB tenB
  simp only [eq_nat, show (45 : UInt8).toNat = 45 from rfl, show (46 : UInt8).toNat = 46 from rfl, Bool.and_eq_true, Bool.or_eq_true, Bool.not_eq_true', decide_eq_true_eq, Bool.and_eq_false_iff, Bool.or_eq_false_iff, decide_eq_false_iff_not]
  omega
theorem okAt_iff {s : List UInt8} {k : Nat} (hk : k < s.length) : okAt s k ↔ ((97 ≤ (gB s k).toNat ∧ (gB s k).toNat ≤ 122) ∨ (48 ≤ (gB s k).toNat ∧ (gB s k).toNat ≤ 57) ∨ ((gB s k).toNat = 45 ∧ 0 < k ∧ k + 1 ≠ s.length ∧ (gB s (k - 1)).toNat ≠ 46) ∨ ((gB s k).toNat = 46 ∧ 0 < k ∧ k + 1 ≠ s.length ∧ (gB s (k - 1)).toNat ≠ 46 ∧ (gB s (k - 1)).toNat ≠ 45)) := by
  have h1 : ∀ x y : UInt8, (x ≠ y) = (x.toNat ≠ y.toNat) := fun x y => by
    apply propext; constructor
    · intro h e; exact h (UInt8.toNat_inj.1 e)
    · intro h e; exact h (by rw [e])
  unfold okAt
  rw [okCond_iff]
  simp only [h1, show (45 : UInt8).toNat = 45 from rfl, show (46 : UInt8).toNat = 46 from rfl]
  unfold prv
  by_cases h0 : k = 0
  · rw [if_pos h0]; simp only [show (46 : UInt8).toNat = 46 from rfl]; omega
  · rw [if_neg h0]; omega
theorem bucket_no {s : List UInt8} {k : Nat} (h0 : 0 < s.length) (hk : k < s.length) (h : ¬ okAt s k) : bucketL s = false := by
  rw [bucket_ref]
  have : chk 46 s = false := by
    rw [← Bool.not_eq_true, chk_ok s h0]; exact fun hh => h (hh k hk)
  rw [this]; simp
theorem bucket_yes {s : List UInt8} (h1 : 3 ≤ s.length) (h2 : s.length ≤ 63) (h : ∀ j, j < s.length → okAt s j) : bucketL s = (!(s.all numC) || decide (s.count 46 ≠ 3)) := by
  rw [bucket_ref, (chk_ok s (by omega)).2 h, decide_eq_true h1, decide_eq_true h2]; simp
theorem numC_iff (b : UInt8) : numC b = decide ((48 ≤ b.toNat ∧ b.toNat ≤ 57) ∨ b.toNat = 46) := by
  unfold numC tenB; rw [eq_nat]; rw [Bool.eq_iff_iff]; simp
theorem count_snoc (s : List UInt8) (k : Nat) (h : k < s.length) : (s.take (k + 1)).count 46 = (s.take k).count 46 + if (gB s k).toNat = 46 then 1 else 0 := by
  rw [take_snocB s k h, List.count_append, List.count_singleton, eq_nat]; simp
theorem all_snocB (s : List UInt8) (k : Nat) (h : k < s.length) : (s.take (k + 1)).all numC = ((s.take k).all numC && numC (gB s k)) := by
  rw [take_snocB s k h, List.all_append]; simp
set_option maxRecDepth 100000 in
set_option maxHeartbeats 4000000 in
theorem RBucket_any (s : List UInt8) (w : World) (hl : s.length ≤ 100000000) :
    Calls Tryz.prog 23 #[.string ⟨s.toArray⟩] w fun e w' => e = .returned (.bool (bucketL s)) ∧ w' = w := by
  by_cases hsz : s.length < 3 ∨ 63 < s.length
  · have HB := Lib.hid (bucket_len hsz)
    have hc : (s.length : Int) < 3 ∨ (¬ (s.length : Int) < 3 ∧ 63 < (s.length : Int)) := by omega
    clear hsz
    rcases hc with hc | ⟨hc1, hc⟩
    all_goals
      go_enter Tryz.func23, Tryz.ntmps23
      go_wp2_with fail
      go_ret
      exact ⟨by rw [HB.out]; rfl, rfl⟩
  · have h3 : 3 ≤ s.length := by omega
    have h63 : s.length ≤ 63 := by omega
    clear hsz hl
    go_enter Tryz.func23, Tryz.ntmps23
    go_wp2_with fail
    go_loopw [3, 4, 5] (fun dv nv i wr => ∃ (k D : Nat) (N : Bool), k ≤ s.length ∧ D ≤ k ∧ dv = .int .i64 (D : Int) ∧ nv = .bool N ∧ i = .int .i64 (k : Int) ∧ Hid ((s.take k).count 46 = D) ∧ Hid ((s.take k).all numC = N) ∧ Hid (∀ j, j < k → okAt s j) ∧ wr = w) (fun _ _ i _ => s.length - (intOf i).toNat)
    case atStart => exact ⟨0, 0, true, by omega, by omega, rfl, rfl, rfl, Lib.hid (by simp), Lib.hid (by simp), Lib.hid (fun j h => by omega), rfl⟩
    case round =>
      obtain ⟨k, D, N, hk, hDk, rfl, rfl, rfl, HD, HN, HA, rfl⟩ := hrel
      by_cases hlt : k < s.length
      · have g1 : decide (k < s.length) = true := by simpa using hlt
        have HOK := Lib.hid (okAt_iff hlt)
        have HCS := Lib.hid (count_snoc s k hlt)
        have HAS := Lib.hid (all_snocB s k hlt)
        have HNC := Lib.hid (numC_iff (gB s k))
        have HNO := Lib.hid (fun h => bucket_no (s := s) (k := k) (by omega) hlt h)
        have HAn : Hid (okAt s k → ∀ j, j < k + 1 → okAt s j) := Lib.hid (fun h j hj => by
          by_cases e : j = k
          · subst e; exact h
          · exact HA.out j (by omega))
        clear HA
        obtain ⟨b, hb⟩ : ∃ b, gB s k = b := ⟨_, rfl⟩
        rw [hb] at HOK HCS HAS HNC
        have hcls : (97 ≤ (b.toNat : Int) ∧ (b.toNat : Int) ≤ 122) ∨ (48 ≤ (b.toNat : Int) ∧ (b.toNat : Int) ≤ 57) ∨ (b.toNat : Int) = 45 ∨ (b.toNat : Int) = 46 ∨ (b.toNat : Int) < 45 ∨ (b.toNat : Int) = 47 ∨ (58 ≤ (b.toNat : Int) ∧ (b.toNat : Int) ≤ 96) ∨ 123 ≤ (b.toNat : Int) := by omega
        rcases k with _ | m
        · rw [show ((0 : Nat) : Int) = 0 from rfl]
          rcases hcls with ⟨hc1, hc2⟩ | ⟨hc1, hc2⟩ | hc | hc | hc | hc | ⟨hc1, hc2⟩ | hc
          · have d122 : decide ((b.toNat : Int) ≤ 122) = true := by simp; omega
            have d57 : decide ((b.toNat : Int) ≤ 57) = false := by simp; omega
            have q45 : ((b.toNat : Int) == 45) = false := by rw [beq_eq_false_iff_ne]; omega
            have n45 : ((b.toNat : Int) != 45) = true := by simp [bne, q45]
            have q46 : ((b.toNat : Int) == 46) = false := by rw [beq_eq_false_iff_ne]; omega
            have n46 : ((b.toNat : Int) != 46) = true := by simp [bne, q46]
            have hlen : 3 ≤ (s.length : Int) := by omega
            have ql : ((0 : Int) == (s.length : Int) - 1) = false := by rw [beq_eq_false_iff_ne]; omega
            have HA2 : Hid (∀ j, j < 0 + 1 → okAt s j) := Lib.hid (HAn.out (HOK.out.2 (by omega)))
            have HD2 : Hid ((s.take (0 + 1)).count 46 = D) := Lib.hid (by rw [HCS.out, HD.out, if_neg (by omega)]; rfl)
            have HN2 : Hid ((s.take (0 + 1)).all numC = false) := Lib.hid (by rw [HAS.out, HN.out, HNC.out, decide_eq_false (by omega), Bool.and_false])
            clear HNO HOK HCS HAS HNC HAn HD HN
            go_wp2_with fail
            go_roundw
            case rel => exact ⟨0 + 1, D, false, by omega, by omega, rfl, rfl, by go_num, HD2, HN2, HA2, trivial⟩
            case measure => simp [intOf]; omega
          · have d122 : decide ((b.toNat : Int) ≤ 122) = true := by simp; omega
            have d57 : decide ((b.toNat : Int) ≤ 57) = true := by simp; omega
            have q45 : ((b.toNat : Int) == 45) = false := by rw [beq_eq_false_iff_ne]; omega
            have n45 : ((b.toNat : Int) != 45) = true := by simp [bne, q45]
            have q46 : ((b.toNat : Int) == 46) = false := by rw [beq_eq_false_iff_ne]; omega
            have n46 : ((b.toNat : Int) != 46) = true := by simp [bne, q46]
            have hlen : 3 ≤ (s.length : Int) := by omega
            have ql : ((0 : Int) == (s.length : Int) - 1) = false := by rw [beq_eq_false_iff_ne]; omega
            have HA2 : Hid (∀ j, j < 0 + 1 → okAt s j) := Lib.hid (HAn.out (HOK.out.2 (by omega)))
            have HD2 : Hid ((s.take (0 + 1)).count 46 = D) := Lib.hid (by rw [HCS.out, HD.out, if_neg (by omega)]; rfl)
            have HN2 : Hid ((s.take (0 + 1)).all numC = N) := Lib.hid (by rw [HAS.out, HN.out, HNC.out, decide_eq_true (by omega), Bool.and_true])
            clear HNO HOK HCS HAS HNC HAn HD HN
            go_wp2_with fail
            go_roundw
            case rel => exact ⟨0 + 1, D, N, by omega, by omega, rfl, rfl, by go_num, HD2, HN2, HA2, trivial⟩
            case measure => simp [intOf]; omega
          · have d122 : decide ((b.toNat : Int) ≤ 122) = true := by simp; omega
            have d57 : decide ((b.toNat : Int) ≤ 57) = true := by simp; omega
            have q45 : ((b.toNat : Int) == 45) = true := by simp only [beq_iff_eq]; omega
            have n45 : ((b.toNat : Int) != 45) = false := by simp [bne, q45]
            have q46 : ((b.toNat : Int) == 46) = false := by rw [beq_eq_false_iff_ne]; omega
            have n46 : ((b.toNat : Int) != 46) = true := by simp [bne, q46]
            have hlen : 3 ≤ (s.length : Int) := by omega
            have ql : ((0 : Int) == (s.length : Int) - 1) = false := by rw [beq_eq_false_iff_ne]; omega
            have HB : Hid (bucketL s = false) := Lib.hid (HNO.out (by rw [HOK.out]; omega))
            clear HNO HOK HCS HAS HNC HAn
            go_wp2_with fail
            go_ret
            exact ⟨by rw [HB.out]; rfl, rfl⟩
          · have d122 : decide ((b.toNat : Int) ≤ 122) = true := by simp; omega
            have d57 : decide ((b.toNat : Int) ≤ 57) = true := by simp; omega
            have q45 : ((b.toNat : Int) == 45) = false := by rw [beq_eq_false_iff_ne]; omega
            have n45 : ((b.toNat : Int) != 45) = true := by simp [bne, q45]
            have q46 : ((b.toNat : Int) == 46) = true := by simp only [beq_iff_eq]; omega
            have n46 : ((b.toNat : Int) != 46) = false := by simp [bne, q46]
            have hlen : 3 ≤ (s.length : Int) := by omega
            have ql : ((0 : Int) == (s.length : Int) - 1) = false := by rw [beq_eq_false_iff_ne]; omega
            have HB : Hid (bucketL s = false) := Lib.hid (HNO.out (by rw [HOK.out]; omega))
            clear HNO HOK HCS HAS HNC HAn
            go_wp2_with fail
            go_ret
            exact ⟨by rw [HB.out]; rfl, rfl⟩
          · have d122 : decide ((b.toNat : Int) ≤ 122) = true := by simp; omega
            have d57 : decide ((b.toNat : Int) ≤ 57) = true := by simp; omega
            have q45 : ((b.toNat : Int) == 45) = false := by rw [beq_eq_false_iff_ne]; omega
            have n45 : ((b.toNat : Int) != 45) = true := by simp [bne, q45]
            have q46 : ((b.toNat : Int) == 46) = false := by rw [beq_eq_false_iff_ne]; omega
            have n46 : ((b.toNat : Int) != 46) = true := by simp [bne, q46]
            have HB : Hid (bucketL s = false) := Lib.hid (HNO.out (by rw [HOK.out]; omega))
            clear HNO HOK HCS HAS HNC HAn
            go_wp2_with fail
            go_ret
            exact ⟨by rw [HB.out]; rfl, rfl⟩
          · have d122 : decide ((b.toNat : Int) ≤ 122) = true := by simp; omega
            have d57 : decide ((b.toNat : Int) ≤ 57) = true := by simp; omega
            have q45 : ((b.toNat : Int) == 45) = false := by rw [beq_eq_false_iff_ne]; omega
            have n45 : ((b.toNat : Int) != 45) = true := by simp [bne, q45]
            have q46 : ((b.toNat : Int) == 46) = false := by rw [beq_eq_false_iff_ne]; omega
            have n46 : ((b.toNat : Int) != 46) = true := by simp [bne, q46]
            have HB : Hid (bucketL s = false) := Lib.hid (HNO.out (by rw [HOK.out]; omega))
            clear HNO HOK HCS HAS HNC HAn
            go_wp2_with fail
            go_ret
            exact ⟨by rw [HB.out]; rfl, rfl⟩
          · have d122 : decide ((b.toNat : Int) ≤ 122) = true := by simp; omega
            have d57 : decide ((b.toNat : Int) ≤ 57) = false := by simp; omega
            have q45 : ((b.toNat : Int) == 45) = false := by rw [beq_eq_false_iff_ne]; omega
            have n45 : ((b.toNat : Int) != 45) = true := by simp [bne, q45]
            have q46 : ((b.toNat : Int) == 46) = false := by rw [beq_eq_false_iff_ne]; omega
            have n46 : ((b.toNat : Int) != 46) = true := by simp [bne, q46]
            have HB : Hid (bucketL s = false) := Lib.hid (HNO.out (by rw [HOK.out]; omega))
            clear HNO HOK HCS HAS HNC HAn
            go_wp2_with fail
            go_ret
            exact ⟨by rw [HB.out]; rfl, rfl⟩
          · have d122 : decide ((b.toNat : Int) ≤ 122) = false := by simp; omega
            have d57 : decide ((b.toNat : Int) ≤ 57) = false := by simp; omega
            have q45 : ((b.toNat : Int) == 45) = false := by rw [beq_eq_false_iff_ne]; omega
            have n45 : ((b.toNat : Int) != 45) = true := by simp [bne, q45]
            have q46 : ((b.toNat : Int) == 46) = false := by rw [beq_eq_false_iff_ne]; omega
            have n46 : ((b.toNat : Int) != 46) = true := by simp [bne, q46]
            have HB : Hid (bucketL s = false) := Lib.hid (HNO.out (by rw [HOK.out]; omega))
            clear HNO HOK HCS HAS HNC HAn
            go_wp2_with fail
            go_ret
            exact ⟨by rw [HB.out]; rfl, rfl⟩
        · rcases hcls with ⟨hc1, hc2⟩ | ⟨hc1, hc2⟩ | hc | hc | hc | hc | ⟨hc1, hc2⟩ | hc
          · have d122 : decide ((b.toNat : Int) ≤ 122) = true := by simp; omega
            have d57 : decide ((b.toNat : Int) ≤ 57) = false := by simp; omega
            have q45 : ((b.toNat : Int) == 45) = false := by rw [beq_eq_false_iff_ne]; omega
            have n45 : ((b.toNat : Int) != 45) = true := by simp [bne, q45]
            have q46 : ((b.toNat : Int) == 46) = false := by rw [beq_eq_false_iff_ne]; omega
            have n46 : ((b.toNat : Int) != 46) = true := by simp [bne, q46]
            have hlen : 3 ≤ (s.length : Int) := by omega
            have q0 : (((m : Int) + 1) == 0) = false := by rw [beq_eq_false_iff_ne]; omega
            by_cases hlast : m + 2 = s.length
            · have ql : (((m : Int) + 1) == (s.length : Int) - 1) = true := by simp only [beq_iff_eq]; omega
              have ql2 : (s.length : Int) - 1 = (m : Int) + 1 := by omega
              have HA2 : Hid (∀ j, j < (m + 1) + 1 → okAt s j) := Lib.hid (HAn.out (HOK.out.2 (by omega)))
              have HD2 : Hid ((s.take ((m + 1) + 1)).count 46 = D) := Lib.hid (by rw [HCS.out, HD.out, if_neg (by omega)]; rfl)
              have HN2 : Hid ((s.take ((m + 1) + 1)).all numC = false) := Lib.hid (by rw [HAS.out, HN.out, HNC.out, decide_eq_false (by omega), Bool.and_false])
              clear HNO HOK HCS HAS HNC HAn HD HN
              go_wp2_with fail
              go_roundw
              case rel => exact ⟨(m + 1) + 1, D, false, by omega, by omega, rfl, rfl, by go_num, HD2, HN2, HA2, trivial⟩
              case measure => simp [intOf]; omega
            · have ql : (((m : Int) + 1) == (s.length : Int) - 1) = false := by rw [beq_eq_false_iff_ne]; omega
              have HA2 : Hid (∀ j, j < (m + 1) + 1 → okAt s j) := Lib.hid (HAn.out (HOK.out.2 (by omega)))
              have HD2 : Hid ((s.take ((m + 1) + 1)).count 46 = D) := Lib.hid (by rw [HCS.out, HD.out, if_neg (by omega)]; rfl)
              have HN2 : Hid ((s.take ((m + 1) + 1)).all numC = false) := Lib.hid (by rw [HAS.out, HN.out, HNC.out, decide_eq_false (by omega), Bool.and_false])
              clear HNO HOK HCS HAS HNC HAn HD HN
              go_wp2_with fail
              go_roundw
              case rel => exact ⟨(m + 1) + 1, D, false, by omega, by omega, rfl, rfl, by go_num, HD2, HN2, HA2, trivial⟩
              case measure => simp [intOf]; omega
          · have d122 : decide ((b.toNat : Int) ≤ 122) = true := by simp; omega
            have d57 : decide ((b.toNat : Int) ≤ 57) = true := by simp; omega
            have q45 : ((b.toNat : Int) == 45) = false := by rw [beq_eq_false_iff_ne]; omega
            have n45 : ((b.toNat : Int) != 45) = true := by simp [bne, q45]
            have q46 : ((b.toNat : Int) == 46) = false := by rw [beq_eq_false_iff_ne]; omega
            have n46 : ((b.toNat : Int) != 46) = true := by simp [bne, q46]
            have hlen : 3 ≤ (s.length : Int) := by omega
            have q0 : (((m : Int) + 1) == 0) = false := by rw [beq_eq_false_iff_ne]; omega
            by_cases hlast : m + 2 = s.length
            · have ql : (((m : Int) + 1) == (s.length : Int) - 1) = true := by simp only [beq_iff_eq]; omega
              have ql2 : (s.length : Int) - 1 = (m : Int) + 1 := by omega
              have HA2 : Hid (∀ j, j < (m + 1) + 1 → okAt s j) := Lib.hid (HAn.out (HOK.out.2 (by omega)))
              have HD2 : Hid ((s.take ((m + 1) + 1)).count 46 = D) := Lib.hid (by rw [HCS.out, HD.out, if_neg (by omega)]; rfl)
              have HN2 : Hid ((s.take ((m + 1) + 1)).all numC = N) := Lib.hid (by rw [HAS.out, HN.out, HNC.out, decide_eq_true (by omega), Bool.and_true])
              clear HNO HOK HCS HAS HNC HAn HD HN
              go_wp2_with fail
              go_roundw
              case rel => exact ⟨(m + 1) + 1, D, N, by omega, by omega, rfl, rfl, by go_num, HD2, HN2, HA2, trivial⟩
              case measure => simp [intOf]; omega
            · have ql : (((m : Int) + 1) == (s.length : Int) - 1) = false := by rw [beq_eq_false_iff_ne]; omega
              have HA2 : Hid (∀ j, j < (m + 1) + 1 → okAt s j) := Lib.hid (HAn.out (HOK.out.2 (by omega)))
              have HD2 : Hid ((s.take ((m + 1) + 1)).count 46 = D) := Lib.hid (by rw [HCS.out, HD.out, if_neg (by omega)]; rfl)
              have HN2 : Hid ((s.take ((m + 1) + 1)).all numC = N) := Lib.hid (by rw [HAS.out, HN.out, HNC.out, decide_eq_true (by omega), Bool.and_true])
              clear HNO HOK HCS HAS HNC HAn HD HN
              go_wp2_with fail
              go_roundw
              case rel => exact ⟨(m + 1) + 1, D, N, by omega, by omega, rfl, rfl, by go_num, HD2, HN2, HA2, trivial⟩
              case measure => simp [intOf]; omega
          · have d122 : decide ((b.toNat : Int) ≤ 122) = true := by simp; omega
            have d57 : decide ((b.toNat : Int) ≤ 57) = true := by simp; omega
            have q45 : ((b.toNat : Int) == 45) = true := by simp only [beq_iff_eq]; omega
            have n45 : ((b.toNat : Int) != 45) = false := by simp [bne, q45]
            have q46 : ((b.toNat : Int) == 46) = false := by rw [beq_eq_false_iff_ne]; omega
            have n46 : ((b.toNat : Int) != 46) = true := by simp [bne, q46]
            have hlen : 3 ≤ (s.length : Int) := by omega
            have q0 : (((m : Int) + 1) == 0) = false := by rw [beq_eq_false_iff_ne]; omega
            by_cases hlast : m + 2 = s.length
            · have ql : (((m : Int) + 1) == (s.length : Int) - 1) = true := by simp only [beq_iff_eq]; omega
              have ql2 : (s.length : Int) - 1 = (m : Int) + 1 := by omega
              have HB : Hid (bucketL s = false) := Lib.hid (HNO.out (by rw [HOK.out]; omega))
              clear HNO HOK HCS HAS HNC HAn
              go_wp2_with fail
              go_ret
              exact ⟨by rw [HB.out]; rfl, rfl⟩
            · have ql : (((m : Int) + 1) == (s.length : Int) - 1) = false := by rw [beq_eq_false_iff_ne]; omega
              obtain ⟨p, hp⟩ : ∃ p, gB s m = p := ⟨_, rfl⟩
              rw [show m + 1 - 1 = m by omega, hp] at HOK
              have hprev : (p.toNat : Int) = 46 ∨ (p.toNat : Int) = 45 ∨ (¬ (p.toNat : Int) = 46 ∧ ¬ (p.toNat : Int) = 45) := by omega
              rcases hprev with hp1 | hp1 | ⟨hp1, hp2⟩
              · have p46 : ((p.toNat : Int) == 46) = true := by simp only [beq_iff_eq]; omega
                have p45 : ((p.toNat : Int) == 45) = false := by rw [beq_eq_false_iff_ne]; omega
                have HB : Hid (bucketL s = false) := Lib.hid (HNO.out (by rw [HOK.out]; omega))
                clear HNO HOK HCS HAS HNC HAn
                go_wp2_with fail
                go_ret
                exact ⟨by rw [HB.out]; rfl, rfl⟩
              · have p46 : ((p.toNat : Int) == 46) = false := by rw [beq_eq_false_iff_ne]; omega
                have p45 : ((p.toNat : Int) == 45) = true := by simp only [beq_iff_eq]; omega
                have HA2 : Hid (∀ j, j < (m + 1) + 1 → okAt s j) := Lib.hid (HAn.out (HOK.out.2 (by omega)))
                have HD2 : Hid ((s.take ((m + 1) + 1)).count 46 = D) := Lib.hid (by rw [HCS.out, HD.out, if_neg (by omega)]; rfl)
                have HN2 : Hid ((s.take ((m + 1) + 1)).all numC = false) := Lib.hid (by rw [HAS.out, HN.out, HNC.out, decide_eq_false (by omega), Bool.and_false])
                clear HNO HOK HCS HAS HNC HAn HD HN
                go_wp2_with fail
                go_roundw
                case rel => exact ⟨(m + 1) + 1, D, false, by omega, by omega, rfl, rfl, by go_num, HD2, HN2, HA2, trivial⟩
                case measure => simp [intOf]; omega
              · have p46 : ((p.toNat : Int) == 46) = false := by rw [beq_eq_false_iff_ne]; omega
                have p45 : ((p.toNat : Int) == 45) = false := by rw [beq_eq_false_iff_ne]; omega
                have HA2 : Hid (∀ j, j < (m + 1) + 1 → okAt s j) := Lib.hid (HAn.out (HOK.out.2 (by omega)))
                have HD2 : Hid ((s.take ((m + 1) + 1)).count 46 = D) := Lib.hid (by rw [HCS.out, HD.out, if_neg (by omega)]; rfl)
                have HN2 : Hid ((s.take ((m + 1) + 1)).all numC = false) := Lib.hid (by rw [HAS.out, HN.out, HNC.out, decide_eq_false (by omega), Bool.and_false])
                clear HNO HOK HCS HAS HNC HAn HD HN
                go_wp2_with fail
                go_roundw
                case rel => exact ⟨(m + 1) + 1, D, false, by omega, by omega, rfl, rfl, by go_num, HD2, HN2, HA2, trivial⟩
                case measure => simp [intOf]; omega
          · have d122 : decide ((b.toNat : Int) ≤ 122) = true := by simp; omega
            have d57 : decide ((b.toNat : Int) ≤ 57) = true := by simp; omega
            have q45 : ((b.toNat : Int) == 45) = false := by rw [beq_eq_false_iff_ne]; omega
            have n45 : ((b.toNat : Int) != 45) = true := by simp [bne, q45]
            have q46 : ((b.toNat : Int) == 46) = true := by simp only [beq_iff_eq]; omega
            have n46 : ((b.toNat : Int) != 46) = false := by simp [bne, q46]
            have hlen : 3 ≤ (s.length : Int) := by omega
            have q0 : (((m : Int) + 1) == 0) = false := by rw [beq_eq_false_iff_ne]; omega
            by_cases hlast : m + 2 = s.length
            · have ql : (((m : Int) + 1) == (s.length : Int) - 1) = true := by simp only [beq_iff_eq]; omega
              have ql2 : (s.length : Int) - 1 = (m : Int) + 1 := by omega
              have HB : Hid (bucketL s = false) := Lib.hid (HNO.out (by rw [HOK.out]; omega))
              clear HNO HOK HCS HAS HNC HAn
              go_wp2_with fail
              go_ret
              exact ⟨by rw [HB.out]; rfl, rfl⟩
            · have ql : (((m : Int) + 1) == (s.length : Int) - 1) = false := by rw [beq_eq_false_iff_ne]; omega
              obtain ⟨p, hp⟩ : ∃ p, gB s m = p := ⟨_, rfl⟩
              rw [show m + 1 - 1 = m by omega, hp] at HOK
              have hprev : (p.toNat : Int) = 46 ∨ (p.toNat : Int) = 45 ∨ (¬ (p.toNat : Int) = 46 ∧ ¬ (p.toNat : Int) = 45) := by omega
              rcases hprev with hp1 | hp1 | ⟨hp1, hp2⟩
              · have p46 : ((p.toNat : Int) == 46) = true := by simp only [beq_iff_eq]; omega
                have p45 : ((p.toNat : Int) == 45) = false := by rw [beq_eq_false_iff_ne]; omega
                have HB : Hid (bucketL s = false) := Lib.hid (HNO.out (by rw [HOK.out]; omega))
                clear HNO HOK HCS HAS HNC HAn
                go_wp2_with fail
                go_ret
                exact ⟨by rw [HB.out]; rfl, rfl⟩
              · have p46 : ((p.toNat : Int) == 46) = false := by rw [beq_eq_false_iff_ne]; omega
                have p45 : ((p.toNat : Int) == 45) = true := by simp only [beq_iff_eq]; omega
                have HB : Hid (bucketL s = false) := Lib.hid (HNO.out (by rw [HOK.out]; omega))
                clear HNO HOK HCS HAS HNC HAn
                go_wp2_with fail
                go_ret
                exact ⟨by rw [HB.out]; rfl, rfl⟩
              · have p46 : ((p.toNat : Int) == 46) = false := by rw [beq_eq_false_iff_ne]; omega
                have p45 : ((p.toNat : Int) == 45) = false := by rw [beq_eq_false_iff_ne]; omega
                have HA2 : Hid (∀ j, j < (m + 1) + 1 → okAt s j) := Lib.hid (HAn.out (HOK.out.2 (by omega)))
                have HD2 : Hid ((s.take ((m + 1) + 1)).count 46 = D + 1) := Lib.hid (by rw [HCS.out, HD.out, if_pos (by omega)])
                have HN2 : Hid ((s.take ((m + 1) + 1)).all numC = N) := Lib.hid (by rw [HAS.out, HN.out, HNC.out, decide_eq_true (by omega), Bool.and_true])
                clear HNO HOK HCS HAS HNC HAn HD HN
                go_wp2_with fail
                go_roundw
                case rel => exact ⟨(m + 1) + 1, D + 1, N, by omega, by omega, by go_num, rfl, by go_num, HD2, HN2, HA2, trivial⟩
                case measure => simp [intOf]; omega
          · have d122 : decide ((b.toNat : Int) ≤ 122) = true := by simp; omega
            have d57 : decide ((b.toNat : Int) ≤ 57) = true := by simp; omega
            have q45 : ((b.toNat : Int) == 45) = false := by rw [beq_eq_false_iff_ne]; omega
            have n45 : ((b.toNat : Int) != 45) = true := by simp [bne, q45]
            have q46 : ((b.toNat : Int) == 46) = false := by rw [beq_eq_false_iff_ne]; omega
            have n46 : ((b.toNat : Int) != 46) = true := by simp [bne, q46]
            have HB : Hid (bucketL s = false) := Lib.hid (HNO.out (by rw [HOK.out]; omega))
            clear HNO HOK HCS HAS HNC HAn
            go_wp2_with fail
            go_ret
            exact ⟨by rw [HB.out]; rfl, rfl⟩
          · have d122 : decide ((b.toNat : Int) ≤ 122) = true := by simp; omega
            have d57 : decide ((b.toNat : Int) ≤ 57) = true := by simp; omega
            have q45 : ((b.toNat : Int) == 45) = false := by rw [beq_eq_false_iff_ne]; omega
            have n45 : ((b.toNat : Int) != 45) = true := by simp [bne, q45]
            have q46 : ((b.toNat : Int) == 46) = false := by rw [beq_eq_false_iff_ne]; omega
            have n46 : ((b.toNat : Int) != 46) = true := by simp [bne, q46]
            have HB : Hid (bucketL s = false) := Lib.hid (HNO.out (by rw [HOK.out]; omega))
            clear HNO HOK HCS HAS HNC HAn
            go_wp2_with fail
            go_ret
            exact ⟨by rw [HB.out]; rfl, rfl⟩
          · have d122 : decide ((b.toNat : Int) ≤ 122) = true := by simp; omega
            have d57 : decide ((b.toNat : Int) ≤ 57) = false := by simp; omega
            have q45 : ((b.toNat : Int) == 45) = false := by rw [beq_eq_false_iff_ne]; omega
            have n45 : ((b.toNat : Int) != 45) = true := by simp [bne, q45]
            have q46 : ((b.toNat : Int) == 46) = false := by rw [beq_eq_false_iff_ne]; omega
            have n46 : ((b.toNat : Int) != 46) = true := by simp [bne, q46]
            have HB : Hid (bucketL s = false) := Lib.hid (HNO.out (by rw [HOK.out]; omega))
            clear HNO HOK HCS HAS HNC HAn
            go_wp2_with fail
            go_ret
            exact ⟨by rw [HB.out]; rfl, rfl⟩
          · have d122 : decide ((b.toNat : Int) ≤ 122) = false := by simp; omega
            have d57 : decide ((b.toNat : Int) ≤ 57) = false := by simp; omega
            have q45 : ((b.toNat : Int) == 45) = false := by rw [beq_eq_false_iff_ne]; omega
            have n45 : ((b.toNat : Int) != 45) = true := by simp [bne, q45]
            have q46 : ((b.toNat : Int) == 46) = false := by rw [beq_eq_false_iff_ne]; omega
            have n46 : ((b.toNat : Int) != 46) = true := by simp [bne, q46]
            have HB : Hid (bucketL s = false) := Lib.hid (HNO.out (by rw [HOK.out]; omega))
            clear HNO HOK HCS HAS HNC HAn
            go_wp2_with fail
            go_ret
            exact ⟨by rw [HB.out]; rfl, rfl⟩
      · obtain rfl : k = s.length := by omega
        rw [List.take_length] at HD HN
        have HB : Hid (bucketL s = (!N || decide (D ≠ 3))) := Lib.hid (by rw [bucket_yes h3 h63 HA.out, HD.out, HN.out])
        clear HA HD HN hlt
        rcases N with _ | _
        · go_wp2_with fail
          go_ret
          exact ⟨by rw [HB.out]; rfl, rfl⟩
        · by_cases h : D = 3
          · have q3 : ((D : Int) == 3) = true := by simp only [beq_iff_eq]; omega
            have HB2 : Hid (bucketL s = false) := Lib.hid (by rw [HB.out, h]; rfl)
            clear h HB
            go_wp2_with fail
            go_ret
            exact ⟨by rw [HB2.out]; first | rfl | simp [bne, q3], rfl⟩
          · have q3 : ((D : Int) == 3) = false := by rw [beq_eq_false_iff_ne]; omega
            have HB2 : Hid (bucketL s = true) := Lib.hid (by rw [HB.out, decide_eq_true h]; rfl)
            clear h HB
            go_wp2_with fail
            go_ret
            exact ⟨by rw [HB2.out]; first | rfl | simp [bne, q3], rfl⟩
end Go.Proofs.YtlalpnnnnmcejaaGreatDoor
/- The laws UriEscapes, UriNames. -/
set_option linter.unusedVariables false
set_option linter.unusedSimpArgs false
namespace Go.Proofs.YtlalpnnnnmcejaaGreatDoor
open Go Go.RowKit
set_option maxRecDepth 100000 in
set_option maxHeartbeats 2000000 in
theorem UriEscapes_any (s : List UInt8) (w : World) (hs : s.length ≤ 1048576) (h : U13 w) : Calls Tryz.prog 3 #[.string ⟨s.toArray⟩] w fun e w' => e = .returned (.bool true) ∧ Q w w' := by
  have HU := Lib.hid h
  have hl : s.length ≤ 100000000 := by omega
  have HD := Lib.hid (fun W => Decode_any s W hl)
  have HRD := Lib.hid (fun W => RDecode_any s W hl)
  have HE := Lib.hid (fun sl W => Encode_any s sl W hl)
  have HRE := Lib.hid (fun sl W => REncode_any s sl W hl)
  obtain ⟨E1, hE1⟩ : ∃ E1, encL true s = E1 := ⟨_, rfl⟩
  obtain ⟨E2, hE2⟩ : ∃ E2, encL false s = E2 := ⟨_, rfl⟩
  have HE1 := HE.out true
  have HE2 := HE.out false
  have HR1 := HRE.out true
  have HR2 := HRE.out false
  rw [hE1] at HE1 HR1
  rw [hE2] at HE2 HR2
  have HE1 := Lib.hid HE1
  have HE2 := Lib.hid HE2
  have HR1 := Lib.hid HR1
  have HR2 := Lib.hid HR2
  clear h hE1 hE2 HE HRE
  rcases hr : decR s with ⟨t, _ | k⟩
  · have h1 : decOut s = (t, 0, 0) := by unfold decOut; rw [hr]
    have h2 : rdecOut s = (t, -1) := by unfold rdecOut; rw [hr]
    rw [h1] at HD
    rw [h2] at HRD
    clear h1 h2 hr
    go_enter Tryz.func3, Tryz.ntmps3
    go_wp2_with fail
    refine (examples13_any _ HU.out).mono ?_
    rintro e w1 ⟨rfl, hq1⟩
    have HQ1 := Lib.hid hq1
    clear hq1
    go_wp2_with fail
    refine (HD.out _).mono ?_
    rintro e w2 ⟨rfl, hq2⟩
    have HQ2 := Lib.hid (HQ1.out.trans hq2)
    clear hq2
    go_wp2_with fail
    refine (HRD.out _).mono ?_
    rintro e w3 ⟨rfl, hq3⟩
    have HQ3 := Lib.hid (HQ2.out.trans hq3)
    clear hq3
    go_wp2_with fail
    refine (HE1.out _).mono ?_
    rintro e w4 ⟨rfl, hq4⟩
    have HQ4 := Lib.hid (HQ3.out.trans hq4)
    clear hq4
    go_wp2_with fail
    refine (HR1.out _).mono ?_
    rintro e w5 ⟨rfl, hq5⟩
    have HQ5 := Lib.hid (HQ4.out.trans hq5)
    clear hq5
    go_wp2_with fail
    refine (HE2.out _).mono ?_
    rintro e w6 ⟨rfl, hq6⟩
    have HQ6 := Lib.hid (HQ5.out.trans hq6)
    clear hq6
    go_wp2_with fail
    refine (HR2.out _).mono ?_
    rintro e w7 ⟨rfl, hq7⟩
    have HQ7 := Lib.hid (HQ6.out.trans hq7)
    clear hq7
    go_wp2_with fail
    go_ret
    refine ⟨?_, HQ7.out⟩
    first | rfl | (show Ending.returned (.bool _) = .returned (.bool true); simp)
  · have hk := decR_lt (l := s) (k := k) (by rw [hr])
    have h1 : decOut s = ([], 52, k) := by unfold decOut; rw [hr]
    have h2 : rdecOut s = ([], (k : Int)) := by unfold rdecOut; rw [hr]
    rw [h1] at HD
    rw [h2] at HRD
    have hk0 : ¬ (k : Int) < 0 := by omega
    clear h1 h2 hr
    go_enter Tryz.func3, Tryz.ntmps3
    go_wp2_with fail
    refine (examples13_any _ HU.out).mono ?_
    rintro e w1 ⟨rfl, hq1⟩
    have HQ1 := Lib.hid hq1
    clear hq1
    go_wp2_with fail
    refine (HD.out _).mono ?_
    rintro e w2 ⟨rfl, hq2⟩
    have HQ2 := Lib.hid (HQ1.out.trans hq2)
    clear hq2
    go_wp2_with fail
    refine (HRD.out _).mono ?_
    rintro e w3 ⟨rfl, hq3⟩
    have HQ3 := Lib.hid (HQ2.out.trans hq3)
    clear hq3
    go_wp2_with fail
    refine (HE1.out _).mono ?_
    rintro e w4 ⟨rfl, hq4⟩
    have HQ4 := Lib.hid (HQ3.out.trans hq4)
    clear hq4
    go_wp2_with fail
    refine (HR1.out _).mono ?_
    rintro e w5 ⟨rfl, hq5⟩
    have HQ5 := Lib.hid (HQ4.out.trans hq5)
    clear hq5
    go_wp2_with fail
    refine (HE2.out _).mono ?_
    rintro e w6 ⟨rfl, hq6⟩
    have HQ6 := Lib.hid (HQ5.out.trans hq6)
    clear hq6
    go_wp2_with fail
    refine (HR2.out _).mono ?_
    rintro e w7 ⟨rfl, hq7⟩
    have HQ7 := Lib.hid (HQ6.out.trans hq7)
    clear hq7
    go_wp2_with fail
    go_ret
    refine ⟨?_, HQ7.out⟩
    first | rfl | (show Ending.returned (.bool _) = .returned (.bool true); simp)
set_option maxRecDepth 100000 in
set_option maxHeartbeats 2000000 in
theorem UriNames_any (s t : List UInt8) (w : World) (hs : s.length ≤ 1048576) (ht : t.length ≤ 1048576) (h : U13 w) : Calls Tryz.prog 7 #[.string ⟨s.toArray⟩, .string ⟨t.toArray⟩] w fun e w' => e = .returned (.bool true) ∧ Q w w' := by
  have HU := Lib.hid h
  have hl : s.length ≤ 100000000 := by omega
  have hl2 : t.length ≤ 100000000 := by omega
  have hs2 : s.length < 4294967281 := by omega
  have HS := Lib.hid (fun W hW => Split_any s W hW hs2)
  have HRS := Lib.hid (fun W => RSplit_any s W hl)
  have HJ := Lib.hid (fun W => Join_any s t W hl hl2)
  have HRJ := Lib.hid (fun W => RJoin_any s t W hl hl2)
  have HB := Lib.hid (fun W hW => Bucket_any s W hW)
  have HRB := Lib.hid (fun W => RBucket_any s W hl)
  generalize splitU s = SP at HS HRS
  generalize joinU s t = J at HJ HRJ
  generalize bucketL s = B at HB HRB
  obtain ⟨a, b⟩ := SP
  clear h hs2
  go_enter Tryz.func7, Tryz.ntmps7
  go_wp2_with fail
  refine (examples13_any _ HU.out).mono ?_
  rintro e w1 ⟨rfl, hq1⟩
  have HQ1 := Lib.hid hq1
  clear hq1
  go_wp2_with fail
  refine (HS.out _ (HU.out.q HQ1.out)).mono ?_
  rintro e w2 ⟨rfl, hq2⟩
  have HQ2 := Lib.hid (HQ1.out.trans hq2)
  clear hq2
  go_wp2_with fail
  refine (HRS.out _).mono ?_
  rintro e w3 ⟨rfl, hq3⟩
  have HQ3 := Lib.hid (HQ2.out.trans hq3)
  clear hq3
  go_wp2_with fail
  refine (HJ.out _).mono ?_
  rintro e w4 ⟨rfl, rfl⟩
  go_wp2_with fail
  refine (HRJ.out _).mono ?_
  rintro e w4 ⟨rfl, rfl⟩
  go_wp2_with fail
  refine (HB.out _ (HU.out.q HQ3.out)).mono ?_
  rintro e w6 ⟨rfl, hq6⟩
  have HQ6 := Lib.hid (HQ3.out.trans hq6)
  clear hq6
  go_wp2_with fail
  refine (HRB.out _).mono ?_
  rintro e w7 ⟨rfl, rfl⟩
  go_wp2_with fail
  go_ret
  refine ⟨?_, HQ6.out⟩
  first | rfl | (show Ending.returned (.bool _) = .returned (.bool true); simp)
end Go.Proofs.YtlalpnnnnmcejaaGreatDoor
/- A slice of pairs that came in, opened; what the bulk bounds. -/
set_option linter.unusedVariables false
namespace Go.Proofs.YtlalpnnnnmcejaaGreatDoor
open Go Go.RowKit Go.ChangeShapes Go.WideShapes Go.Deep
theorem list2 {α : Type} {l : List α} (h : l.length = 2) : ∃ a b, l = [a, b] := by
  match l, h with
  | [a, b], _ => exact ⟨a, b, rfl⟩
theorem str_back (s : ByteArray) : Value.string s = .string ⟨s.data.toList.toArray⟩ := by cases s; rfl
theorem trod_struct2 {H : Type} {enc : TypeId × Value → H} {P : Program} {w : World} {base : Nat} {spare : Nat → Bool} {held : Bool} {t : TypeId} {f0 f1 : Field} {fuel : Nat} {cs : List Value} {x : DataW H × List MemPlace} (ht : P.underlying t = some (.struct #[f0, f1])) (h : DataW.trod enc P w base spare held fuel t cs = some x) :
    ∃ y0 y1 n, x.1 = .agg [y0.1, y1.1] ∧ cs.length = P.cellsOf t ∧ DataW.trod enc P w base spare held n f0.type ((cs.drop f0.offset).take (P.cellsOf f0.type)) = some y0 ∧
      DataW.trod enc P w base spare held n f1.type ((cs.drop f1.offset).take (P.cellsOf f1.type)) = some y1 := by
  obtain ⟨xs, n, _, rfl, hl, hlen, hf⟩ := DataW.trod_struct ht h
  obtain ⟨y0, y1, rfl⟩ := list2 (hlen.trans rfl)
  exact ⟨y0, y1, n, by simp, hl, by simpa using hf 0 f0 rfl, by simpa using hf 1 f1 rfl⟩
section
variable {H : Type} {enc : TypeId × Value → H} {W : World} {sp : Nat → Bool} {hd : Bool}
def pairDat (p : PairD) : DataW H := .agg [.lit (.string p.1), .lit (.string p.2)]
theorem str_of {fuel : Nat} {c : Value} {y : DataW H × List MemPlace} (h : DataW.trod enc Tryz.prog W 0 sp hd fuel 9 [c] = some y) : ∃ s : List UInt8, c = .string ⟨s.toArray⟩ ∧ y.1 = .lit (.string s) := by
  obtain ⟨s, e, e2, _⟩ := DataW.trod_string Tryz.underlying9 h
  have e' : c = .string s := by simpa using e
  exact ⟨s.data.toList, e'.trans (str_back s), by rw [e2]⟩
theorem pair_of {fuel : Nat} {cs : List Value} {y : DataW H × List MemPlace} (h : DataW.trod enc Tryz.prog W 0 sp hd fuel 37 cs = some y) : ∃ p : PairD, cs = pairL p ∧ y.1 = pairDat p := by
  obtain ⟨y0, y1, n, hx, hl, g0, g1⟩ := trod_struct2 Tryz.underlying37 h
  have hc : Tryz.prog.cellsOf 37 = 2 := by kernel_rfl
  have hs : Tryz.prog.cellsOf 9 = 1 := by kernel_rfl
  rw [hc] at hl
  obtain ⟨c0, c1, rfl⟩ := list2 hl
  simp only [hs, List.drop_zero, List.drop_succ_cons, List.take_succ_cons, List.take_zero] at g0 g1
  obtain ⟨s0, rfl, x0⟩ := str_of g0
  obtain ⟨s1, rfl, x1⟩ := str_of g1
  exact ⟨(s0, s1), rfl, by rw [hx, x0, x1]; rfl⟩
theorem bulk_all {d : DataW H} {l : List (DataW H)} (h : d ∈ l) : Rows.uptoBulk d ≤ Rows.uptoBulkAll l := by
  induction l with
  | nil => cases h
  | cons a r ih =>
    simp only [Rows.uptoBulkAll]
    rcases List.mem_cons.1 h with h | h
    · subst h; omega
    · have := ih h; omega
theorem bulk_pos (d : DataW H) : 1 ≤ Rows.uptoBulk d := by
  cases d with
  | lit l => cases l <;> simp [Rows.uptoBulk]
  | _ => simp [Rows.uptoBulk]
theorem bulk_len (l : List (DataW H)) : l.length ≤ Rows.uptoBulkAll l := by
  induction l with
  | nil => simp
  | cons a r ih => have := bulk_pos a; simp only [Rows.uptoBulkAll, List.length_cons]; omega
theorem pair_bulk (p : PairD) : Rows.uptoBulk (pairDat (H := H) p) = p.1.length + 1 + (p.2.length + 1) + 1 := by
  simp [pairDat, Rows.uptoBulk, Rows.uptoBulkAll]
theorem bulk_heavy (ps : List PairD) : Rows.uptoBulkAll (H := H) (ps.map pairDat) = (ps.map fun p => p.1.length + p.2.length + 3).sum := by
  induction ps with
  | nil => simp [Rows.uptoBulkAll]
  | cons p r ih => simp only [List.map_cons, List.sum_cons, Rows.uptoBulkAll, pair_bulk, ih]; omega
/-- A slice of pairs that came in. -/
theorem pairs_of {fuel : Nat} {A : Option Addr} {len cap : Nat} {y : DataW H × List MemPlace} (h : DataW.trod enc Tryz.prog W 0 (fun _ => true) hd fuel 30 [.slice A len cap] = some y) (hB : Rows.uptoBulk y.1 ≤ 1048576) (hz : ∀ x ∈ y.1.weights Tryz.prog 30, x ≤ reachBytes) :
    ∃ ps, PairsAt W A len ps ∧ (∀ p ∈ ps, p.1.length ≤ 1048576 ∧ p.2.length ≤ 1048576) ∧ len ≤ 1048576 ∧ len ≤ cap ∧ cap ≤ 5000000000000 ∧ (ps.map fun p => p.1.length + p.2.length + 3).sum ≤ 1048576 := by
  have hc : Tryz.prog.cellsOf 37 = 2 := by kernel_rfl
  have hb : Tryz.prog.bytesOf 37 = 32 := by kernel_rfl
  rcases open_slice Tryz.underlying30 h with ⟨hcs, hx⟩ | ⟨a, len', cap', m, n, D, Pl, hcs, _, hl, hm, hmm, rfl, hcell⟩
  · simp at hcs
    obtain ⟨rfl, rfl, rfl⟩ := hcs
    exact ⟨[], ⟨rfl, fun h => absurd h (by omega)⟩, (fun p hp => by cases hp), by omega, by omega, by omega, by simp⟩
  · simp at hcs
    obtain ⟨rfl, rfl, rfl⟩ := hcs
    simp only [if_true] at hmm
    subst hmm
    rw [hc] at hcell
    obtain ⟨p, hp⟩ := choose_lt (α := PairD) (p := fun i q => (∀ k v, (pairL q)[k]? = some v → W.cell? ((a.add (i * 2)).add k) = some v) ∧ D i = pairDat q) (fun i hi => by
      obtain ⟨cs', h1, h2⟩ := hcell i hi
      obtain ⟨_, hlen, hcc⟩ := World.cells?_some h1
      obtain ⟨q, rfl, hq⟩ := pair_of h2
      refine ⟨q, fun k v hk => ?_, hq⟩
      have hk2 : k < 2 := by
        have := (List.getElem?_eq_some_iff.1 hk).1
        simpa [pairL] using this
      rw [hcc k hk2, hk])
    have hw : ∀ x ∈ ((m * 32) :: (DataW.weightsAll Tryz.prog 37 ((List.range len).map D))), x ≤ reachBytes := by
      intro x hx
      refine hz x ?_
      rw [DataW.weights, Tryz.underlying30]
      simp only [List.length_map, List.length_range, hb, List.mem_cons, List.mem_append] at hx ⊢
      rcases hx with hx | hx
      · left; rw [hx, Nat.add_sub_cancel' hl]
      · right; left; exact hx
    have hcap := hw (m * 32) (by simp)
    unfold reachBytes at hcap
    refine ⟨(List.range len).map p, ⟨by simp, fun h0 => ?_⟩, fun q hq => ?_, by have h9 := bulk_len (H := H) ((List.range len).map D); simp only [Rows.uptoBulk, List.length_map, List.length_range] at h9 hB; omega, hl, by omega, by
      have h2 : Rows.uptoBulkAll ((List.range len).map D) ≤ 1048576 := by
        simp only [Rows.uptoBulk] at hB; omega
      have h3 : (List.range len).map D = ((List.range len).map p).map pairDat := by
        rw [List.map_map]
        exact List.map_congr_left fun i hi => (hp i (by have := List.mem_range.1 hi; omega)).2
      rw [h3, bulk_heavy] at h2
      exact h2⟩
    · have h00 := (hp 0 (by omega)).1 0 _ rfl
      rw [Nat.zero_mul, add_add] at h00
      obtain ⟨g, off, spot⟩ := a
      have hsp : spot = none ∧ g < W.heap.size := by
        unfold Addr.add World.cell? at h00
        simp only [Nat.add_zero, if_true] at h00
        split at h00
        · rename_i c t f hg
          refine ⟨?_, (Array.getElem?_eq_some_iff.1 hg).1⟩
          cases spot with
          | none => rfl
          | some s => simp at h00
        · cases h00
      obtain ⟨rfl, hg⟩ := hsp
      refine ⟨g, off, rfl, hg, fun j hj i v hv => ?_⟩
      have hj' : j < len := by simpa using hj
      have := (hp j (by omega)).1 i v (by simpa using hv)
      rw [add_add] at this
      unfold Addr.add at this
      by_cases h0 : j * 2 + i = 0
      · rw [if_pos h0] at this
        rw [show off + j * 2 + i = off by omega]; exact this
      · rw [if_neg h0] at this
        rw [show off + j * 2 + i = off + (j * 2 + i) by omega]; exact this
    · obtain ⟨i, hi, rfl⟩ := List.mem_map.1 hq
      have hi' : i < len := by simpa using hi
      have h1 := bulk_all (H := H) (List.mem_map.2 ⟨i, hi, rfl⟩ : D i ∈ (List.range len).map D)
      rw [(hp i (by omega)).2, pair_bulk] at h1
      have h2 : Rows.uptoBulkAll ((List.range len).map D) ≤ 1048576 := by
        simp only [Rows.uptoBulk] at hB; omega
      omega
set_option maxRecDepth 100000 in
theorem pairs_open {b0 : Nat} {v : Value} {d : DataW H} {q : List MemPlace} (hv : Value.okWide Tryz.prog W .any b0 30 v) (h : DataW.Trod enc Tryz.prog W 0 (fun _ => true) hd 30 v d q) (hB : Rows.uptoBulk d ≤ 1048576) (hz : ∀ x ∈ d.weights Tryz.prog 30, x ≤ reachBytes) :
    ∃ A n cap ps, v = .slice A n cap ∧ PairsAt W A n ps ∧ (∀ p ∈ ps, p.1.length ≤ 1048576 ∧ p.2.length ≤ 1048576) ∧ n ≤ 1048576 ∧ n ≤ cap ∧ cap ≤ 5000000000000 ∧ (ps.map fun p => p.1.length + p.2.length + 3).sum ≤ 1048576 := by
  obtain ⟨A, len, cap, rfl⟩ := okWide_slice Tryz.underlying30 hv
  obtain ⟨fuel, hf⟩ := h
  obtain ⟨ps, h1, h2, h3, h4, h5⟩ := pairs_of hf hB hz
  exact ⟨A, len, cap, ps, rfl, h1, h2, h3, h4, h5⟩
end
end Go.Proofs.YtlalpnnnnmcejaaGreatDoor
