/- digest.Unbase64. -/
import Derived.Test.YteadblkkbbhpjaaB64
set_option linter.unusedVariables false
namespace Go.Proofs.Yteadblkkbbhpjaa
open Go Go.RowKit
def sixI (c : UInt8) : Int := Lib.indexByte b64d c
theorem sixI_bd (c : UInt8) : -1 ≤ sixI c ∧ sixI c ≤ 63 := by
  have h : ∀ n : Nat, n < 256 → -1 ≤ sixI (UInt8.ofNat n) ∧ sixI (UInt8.ofNat n) ≤ 63 := by decide +kernel
  have := h c.toNat c.toNat_lt
  rwa [UInt8.ofNat_toNat] at this
theorem ib_six (c : UInt8) (w : World) : Calls Try.prog 50 #[.string ⟨#[65, 66, 67, 68, 69, 70, 71, 72, 73, 74, 75, 76, 77, 78, 79, 80, 81, 82, 83, 84, 85, 86, 87, 88, 89, 90, 97, 98, 99, 100, 101, 102, 103, 104, 105, 106, 107, 108, 109, 110, 111, 112, 113, 114, 115, 116, 117, 118, 119, 120, 121, 122, 48, 49, 50, 51, 52, 53, 54, 55, 56, 57, 43, 47]⟩, .int .u8 (c.toNat : Int)] w fun e w' => e = .returned (.int .i64 (sixI c)) ∧ w = w' :=
  (Try.strings_IndexByte _ _ _).mono fun e w' ⟨h1, h2⟩ => ⟨by rw [h1]; simp [sixI, b64d], h2.symm⟩
/-- Four signs: the place that is wrong, or the number and how many stand for it. -/
def scanU (l : List UInt8) (at_ : Nat) (last : Bool) : Nat → Nat → Nat → Nat → Nat ⊕ (Nat × Nat)
  | 0, k, w, m => .inr (w, m)
  | f + 1, k, w, m =>
    if l.length ≤ at_ + k then .inl l.length
    else if 0 ≤ sixI (gB l (at_ + k)) ∧ m = k then scanU l at_ last f (k + 1) (w + (sixI (gB l (at_ + k))).toNat * 2 ^ (18 - 6 * m)) (m + 1)
    else if gB l (at_ + k) = 61 ∧ last = true ∧ 2 ≤ k then scanU l at_ last f (k + 1) w m
    else .inl (at_ + k)
def outU (w n : Nat) : List UInt8 := (List.range n).map fun k => byteOf ((w / 2 ^ (16 - 8 * k) % 256 : Nat) : Int)
def unGo (l : List UInt8) : Nat → Nat → List UInt8 → List UInt8 × Int × Int
  | 0, at_, acc => (acc, 0, 0)
  | f + 1, at_, acc =>
    match scanU l at_ (decide (l.length ≤ at_ + 4)) 4 0 0 0 with
    | .inl p => ([], 50, p)
    | .inr (w, m) => if w * 2 ^ (8 * (m - 1)) % 16777216 ≠ 0 then ([], 50, (at_ + m - 1 : Nat)) else unGo l f (at_ + 4) (acc ++ outU w (m - 1))
def unbase64L (l : List UInt8) : List UInt8 × Int × Int := unGo l ((l.length + 3) / 4) 0 []
theorem i64_and24 (n : Int) : bits .and .i64 n 16777215 = n % 16777216 := by
  have h127 : (BitVec.ofInt 64 16777215).toNat = 2 ^ 24 - 1 := by decide
  have key : (BitVec.ofInt 64 n &&& BitVec.ofInt 64 16777215).toNat = (n % ((2 ^ 64 : Nat) : Int)).toNat % 2 ^ 24 := by
    rw [BitVec.toNat_and, BitVec.toNat_ofInt, h127, Nat.and_two_pow_sub_one_eq_mod]
  show IntKind.i64.wrap ((BitVec.ofInt 64 n &&& BitVec.ofInt 64 16777215).toNat : Nat) = n % 16777216
  rw [key, IntKind.wrap_i64]
  omega
theorem outU_length (w n : Nat) : (outU w n).length = n := by simp [outU]
theorem outU_succ (w n : Nat) : outU w (n + 1) = outU w n ++ [byteOf ((w / 2 ^ (16 - 8 * n) % 256 : Nat) : Int)] := by
  unfold outU; rw [List.range_succ, List.map_append]; rfl
set_option maxRecDepth 100000 in
set_option maxHeartbeats 8000000 in
theorem Unbase64_any (l : List UInt8) (w : World) (hl : l.length ≤ 187649984473800) : Calls Try.prog 23 #[.string ⟨l.toArray⟩] w (UnPost (unbase64L l) w) := by
  go_enter Try.func23, Try.ntmps23
  go_wp2_with fail
  go_loopw [5, 6] (fun v a wr => ∃ (j : Nat) (acc : List UInt8), 4 * j ≤ l.length + 3 ∧ a = .int .i64 (4 * j : Nat) ∧ Hid (unbase64L l = unGo l ((l.length + 3) / 4 - j) (4 * j) acc) ∧ acc.length ≤ 3 * j ∧ OwnB w wr v acc ∧ Q w wr) (fun _ a _ => l.length + 3 - (intOf a).toNat)
  case atStart => exact ⟨0, [], by omega, rfl, Lib.hid rfl, by simp, OwnB.nil _ _, Q.refl _⟩
  case round =>
    obtain ⟨j, acc, hj, rfl, hgo, hacc, hO, hq⟩ := hrel
    obtain ⟨at_, hat⟩ : ∃ at_, at_ = 4 * j := ⟨_, rfl⟩
    rw [← hat] at hgo ⊢
    by_cases h0 : at_ < l.length
    · have hd0 : decide (at_ < l.length) = true := by simpa using h0
      obtain ⟨f, hf⟩ : ∃ f, (l.length + 3) / 4 - j = f + 1 := ⟨(l.length + 3) / 4 - j - 1, by omega⟩
      have hf2 : (l.length + 3) / 4 - (j + 1) = f := by omega
      rw [hf] at hgo
      obtain ⟨la, hla⟩ : ∃ la, la = decide (l.length ≤ at_ + 4) := ⟨_, rfl⟩
      have hla2 : decide ((l.length : Int) ≤ (at_ : Int) + 4) = la := by rw [hla]; simp; omega
      have hun : unbase64L l = (match scanU l at_ la 4 0 0 0 with
        | .inl p => ([], 50, p)
        | .inr (w, m) => if w * 2 ^ (8 * (m - 1)) % 16777216 ≠ 0 then ([], 50, (at_ + m - 1 : Nat)) else unGo l f (at_ + 4) (acc ++ outU w (m - 1))) := by
        rw [hgo.out, hla]; rfl
      have HUN := Lib.hid hun
      have HO := Lib.hid hO
      have HQ := Lib.hid hq
      have HAT := Lib.hid hat
      have HF2 := Lib.hid hf2
      clear hgo hf hf2 hun hO hq hat hla
      go_upto_region 7 with (fail)
      go_wp2_with fail
      go_loop [7, 8, 10] (fun wv mv iv => ∃ k W m : Nat, k ≤ 4 ∧ iv = .int .i64 (at_ + k : Nat) ∧ wv = .int .i64 W ∧ mv = .int .i64 m ∧ Hid (scanU l at_ la 4 0 0 0 = scanU l at_ la (4 - k) k W m) ∧ m ≤ k ∧ (m = k ∨ 2 ≤ m) ∧ W < 16777216 ∧ Hid (W % 2 ^ (24 - 6 * m) = 0)) (fun _ _ iv => at_ + 4 - (intOf iv).toNat)
      case atStart => exact ⟨0, 0, 0, by omega, rfl, rfl, rfl, Lib.hid rfl, by omega, by omega, by omega, Lib.hid rfl⟩
      case round =>
        obtain ⟨k, W, m, hk, rfl, rfl, rfl, hsc, hmk, hm2, hW, hW0⟩ := hrel
        obtain ⟨i0, hi0⟩ : ∃ i0, i0 = at_ + k := ⟨_, rfl⟩
        rw [← hi0]
        have ei : (i0 : Int) - (at_ : Int) = (k : Int) := by omega
        by_cases hk4 : k < 4
        · have hd4 : decide ((i0 : Int) < (at_ : Int) + 4) = true := by simp; omega
          obtain ⟨f', hf'⟩ : ∃ f', 4 - k = f' + 1 := ⟨3 - k, by omega⟩
          rw [hf'] at hsc
          have hf2 : 4 - (k + 1) = f' := by omega
          by_cases hlen : l.length ≤ i0
          · have hdl : decide (l.length ≤ i0) = true := by simpa using hlen
            have hres : unbase64L l = ([], 50, (l.length : Int)) := by rw [HUN.out, hsc.out, scanU, if_pos (by omega)]
            have HR := Lib.hid hres
            clear hres hsc hf' hf2 hi0 ei
            go_wp2_with fail
            go_ret3
            exact ⟨by rw [HR.out]; rfl, HQ.out⟩
          · have hdl : decide (l.length ≤ i0) = false := by simpa using hlen
            have hstep : scanU l at_ la 4 0 0 0 = (if 0 ≤ sixI (gB l i0) ∧ m = k then scanU l at_ la f' (k + 1) (W + (sixI (gB l i0)).toNat * 2 ^ (18 - 6 * m)) (m + 1)
                else if gB l i0 = 61 ∧ la = true ∧ 2 ≤ k then scanU l at_ la f' (k + 1) W m else .inl i0) := by
              rw [hsc.out, scanU, if_neg (by omega), ← hi0]
            have hb := sixI_bd (gB l i0)
            have HST := Lib.hid hstep
            have HF' := Lib.hid hf2
            have HI0 := Lib.hid hi0
            clear hsc hf' hf2 hstep hi0
            generalize hC : gB l i0 = c at *
            generalize hD : sixI c = d at *
            have HC := Lib.hid hC
            have HD := Lib.hid hD
            clear hC hD
            go_upto_region 13 with (go_at_call 50; refine (ib_six _ _).mono ?_; rintro e w' ⟨rfl, rfl⟩; rw [HC.out, HD.out])
            obtain ⟨pad, hpad⟩ : ∃ pad, pad = decide (c = 61 ∧ la = true ∧ 2 ≤ k) := ⟨_, rfl⟩
            have HPAD := Lib.hid hpad
            clear hpad
            go_cut [12] (fun p wx => p = .bool pad ∧ wr = wx)
            case first =>
              have hC := HC.out
              by_cases c1 : c = 61
              · have t1 : ((c.toNat : Int) == 61) = true := by rw [c1]; rfl
                have hp1 : pad = decide (la = true ∧ 2 ≤ k) := by rw [HPAD.out]; simp [c1]
                have HP1 := Lib.hid hp1
                clear hp1 c1
                cases la
                · have hp2 : pad = false := by rw [HP1.out]; simp
                  have HP2 := Lib.hid hp2
                  clear hp2
                  go_wp2_with fail
                  go_meet
                  case rel => exact ⟨by rw [HP2.out], rfl⟩
                · by_cases hk2 : 2 ≤ k
                  · have t2 : decide ((2 : Int) ≤ (k : Int)) = true := by simp; omega
                    have t3 : decide (2 ≤ k) = true := by simp; omega
                    have hp2 : pad = true := by rw [HP1.out]; simp [hk2]
                    have HP2 := Lib.hid hp2
                    clear hp2
                    go_wp2_with fail
                    go_meet
                    case rel => exact ⟨by rw [HP2.out], rfl⟩
                  · have t2 : decide ((2 : Int) ≤ (k : Int)) = false := by simp; omega
                    have t3 : decide (2 ≤ k) = false := by simp; omega
                    have hp2 : pad = false := by rw [HP1.out]; simp [hk2]
                    have HP2 := Lib.hid hp2
                    clear hp2
                    go_wp2_with fail
                    go_meet
                    case rel => exact ⟨by rw [HP2.out], rfl⟩
              · have t1 : ((c.toNat : Int) == 61) = false := by
                  rw [beq_eq_false_iff_ne]
                  intro e
                  exact c1 (UInt8.toNat_inj.1 (by simpa using (by omega : c.toNat = 61)))
                have hp2 : pad = false := by rw [HPAD.out]; simp [c1]
                have HP2 := Lib.hid hp2
                clear hp2 c1
                go_wp2_with fail
                go_meet
                case rel => exact ⟨by rw [HP2.out], rfl⟩
            case rest =>
              obtain ⟨rfl, rfl⟩ := hcut
              by_cases hB : 0 ≤ d ∧ m = k
              · obtain ⟨hd0', hmk'⟩ := hB
                have hks : k = m := hmk'.symm
                subst hks
                have t1 : decide ((0 : Int) ≤ d) = true := by simpa using hd0'
                have t2 : ((k : Int) == (k : Int)) = true := by simp
                obtain ⟨X, hX⟩ : ∃ X, X = d.toNat * 2 ^ (18 - 6 * k) := ⟨_, rfl⟩
                have hX1 : X < 2 ^ (24 - 6 * k) := by
                  rw [hX, show 24 - 6 * k = 6 + (18 - 6 * k) from by omega, Nat.pow_add]
                  exact Nat.mul_lt_mul_of_pos_right (by omega) (Nat.two_pow_pos _)
                have hX2 : 2 ^ (24 - 6 * k) ≤ 2 ^ 24 := Nat.pow_le_pow_right (by decide) (by omega)
                have hdX : d * 2 ^ (18 - 6 * k) = (X : Int) := by rw [hX, Int.natCast_mul, Int.natCast_pow, show ((d.toNat : Nat) : Int) = d from by omega]; rfl
                have hX3 : X < 16777216 := by omega
                have hor : bits .or .i64 (W : Int) (X : Int) = ((W + X : Nat) : Int) := by
                  rw [or_i64 (24 - 6 * k) (W : Int) (X : Int) (by omega) (by have := hW0.out; exact_mod_cast this) (by omega) (by omega) (by exact_mod_cast hX1) (by omega)]
                  omega
                have hWX : (W + X) % 2 ^ (24 - 6 * (k + 1)) = 0 := by
                  have h1 : W % 2 ^ (24 - 6 * (k + 1)) = 0 := Nat.mod_eq_zero_of_dvd (Nat.dvd_trans (Nat.pow_dvd_pow 2 (by omega)) (Nat.dvd_of_mod_eq_zero hW0.out))
                  have h2 : X % 2 ^ (24 - 6 * (k + 1)) = 0 := by rw [hX, show 24 - 6 * (k + 1) = 18 - 6 * k from by omega]; exact Nat.mul_mod_left _ _
                  rw [Nat.add_mod, h1, h2]; simp
                have hWb : W + X < 16777216 := by
                  have h1 := hW0.out
                  have h2 : W + 2 ^ (24 - 6 * k) ≤ 16777216 := by
                    have hd : 2 ^ (24 - 6 * k) ∣ 16777216 - W := Nat.dvd_sub (show 2 ^ (24 - 6 * k) ∣ 2 ^ 24 from Nat.pow_dvd_pow 2 (by omega)) (Nat.dvd_of_mod_eq_zero h1)
                    have := Nat.le_of_dvd (by omega) hd
                    omega
                  omega
                have hres : scanU l at_ la 4 0 0 0 = scanU l at_ la (4 - (k + 1)) (k + 1) (W + X) (k + 1) := by rw [HST.out, if_pos ⟨hd0', rfl⟩, ← hX, HF'.out]
                have HRES := Lib.hid hres
                have HWX := Lib.hid hWX
                have HX2 := Lib.hid hX2
                clear hX hX1 hX2 hWX hres hW0
                go_wp2_with fail
                go_round
                case rel => exact ⟨k + 1, W + X, k + 1, by omega, by rw [HI0.out]; go_num, by go_num, by go_num, HRES, by omega, by omega, hWb, HWX⟩
                case measure => simp [intOf]; omega
              · have hcond : ∃ B1 : Bool, B1 = (decide (0 ≤ d) && decide (m = k)) ∧ B1 = false := ⟨_, rfl, by simp; omega⟩
                have hst2 : scanU l at_ la 4 0 0 0 = (if pad = true then scanU l at_ la f' (k + 1) W m else .inl i0) := by
                  rw [HST.out, if_neg hB, HPAD.out]; simp
                have HS2 := Lib.hid hst2
                have HW0 := Lib.hid hW0
                clear hst2 hcond
                by_cases hd0' : 0 ≤ d
                · have t1 : decide ((0 : Int) ≤ d) = true := by simpa using hd0'
                  have hmk' : m ≠ k := fun e => hB ⟨hd0', e⟩
                  have t2 : ((m : Int) == (k : Int)) = false := by simp; omega
                  clear hB
                  cases pad
                  · have hres : unbase64L l = ([], 50, (i0 : Int)) := by rw [HUN.out, HS2.out]; rfl
                    have HR := Lib.hid hres
                    clear hres
                    go_wp2_with fail
                    go_ret3
                    exact ⟨by rw [HR.out]; rfl, HQ.out⟩
                  · have hres : scanU l at_ la 4 0 0 0 = scanU l at_ la (4 - (k + 1)) (k + 1) W m := by rw [HS2.out, if_pos rfl, HF'.out]
                    have hk2 : 2 ≤ m := by omega
                    have HRES := Lib.hid hres
                    clear hres
                    go_wp2_with fail
                    go_round
                    case rel => exact ⟨k + 1, W, m, by omega, by rw [HI0.out]; go_num, rfl, rfl, HRES, by omega, by omega, hW, HW0.out⟩
                    case measure => simp [intOf]; omega
                · have t1 : decide ((0 : Int) ≤ d) = false := by simpa using hd0'
                  clear hB
                  cases hpv : pad
                  · subst hpv
                    have hres : unbase64L l = ([], 50, (i0 : Int)) := by rw [HUN.out, HS2.out]; rfl
                    have HR := Lib.hid hres
                    clear hres
                    go_wp2_with fail
                    go_ret3
                    exact ⟨by rw [HR.out]; rfl, HQ.out⟩
                  · subst hpv
                    have hres : scanU l at_ la 4 0 0 0 = scanU l at_ la (4 - (k + 1)) (k + 1) W m := by rw [HS2.out, if_pos rfl, HF'.out]
                    have hk2 : 2 ≤ k := by have := (of_decide_eq_true HPAD.out.symm).2.2; exact this
                    have HRES := Lib.hid hres
                    clear hres
                    go_wp2_with fail
                    go_round
                    case rel => exact ⟨k + 1, W, m, by omega, by rw [HI0.out]; go_num, rfl, rfl, HRES, by omega, by omega, hW, HW0.out⟩
                    case measure => simp [intOf]; omega
        · obtain rfl : k = 4 := by omega
          have hd4 : decide ((i0 : Int) < (at_ : Int) + 4) = false := by simp; omega
          have hm2' : 2 ≤ m := by omega
          rw [show 4 - 4 = 0 from rfl] at hsc
          have hun2 : unbase64L l = (if W * 2 ^ (8 * (m - 1)) % 16777216 ≠ 0 then (([], 50, ((at_ + m - 1 : Nat) : Int)) : List UInt8 × Int × Int) else unGo l f (at_ + 4) (acc ++ outU W (m - 1))) := by
            rw [HUN.out, hsc.out]; rfl
          obtain ⟨Y, hY⟩ : ∃ Y, Y = W * 2 ^ (8 * (m - 1)) := ⟨_, rfl⟩
          rw [← hY] at hun2
          have hY1 : ((W : Int)) * 2 ^ (8 * (m - 1)) = (Y : Int) := by rw [hY, Int.natCast_mul, Int.natCast_pow]; rfl
          have hY2 : Y < 281474976710656 := by
            have h1 : 2 ^ (8 * (m - 1)) ≤ 2 ^ 24 := Nat.pow_le_pow_right (by decide) (by omega)
            have h2 : W * 2 ^ (8 * (m - 1)) ≤ W * 2 ^ 24 := Nat.mul_le_mul_left _ h1
            omega
          have em : (8 * ((m : Int) - 1)).toNat = 8 * (m - 1) := by omega
          have em0 : (0 : Int) ≤ 8 * ((m : Int) - 1) := by omega
          have ha := i64_and24 (Y : Int)
          have HUN2 := Lib.hid hun2
          clear hun2 hY hsc hW0
          by_cases hz : Y % 16777216 = 0
          · have hb : ((Y : Int) % 16777216 != 0) = false := by simp; omega
            have hun3 : unbase64L l = unGo l ((l.length + 3) / 4 - (j + 1)) (4 * (j + 1)) (acc ++ outU W (m - 1)) := by
              rw [HUN2.out, if_neg (by omega), HF2.out, HAT.out]; rfl
            have HUN3 := Lib.hid hun3
            clear hun3 ei
            go_wp2_with fail
            clear ha hY1 em em0 hb
            have e1 : ((m : Int) - 1) = ((m - 1 : Nat) : Int) := by omega
            obtain ⟨M, hM⟩ : ∃ M, M = m - 1 := ⟨_, rfl⟩
            rw [e1]
            rw [← hM] at HUN3 ⊢
            have hM3 : M ≤ 3 := by omega
            clear e1 hM
            obtain ⟨wq, rfl⟩ : ∃ wq : World, wq = wr := ⟨_, rfl⟩
            go_loopw [5, 91] (fun v i wz => ∃ k : Nat, k ≤ M ∧ i = .int .i64 k ∧ OwnB w wz v (acc ++ outU W k) ∧ Q w wz) (fun _ i _ => M - (intOf i).toNat)
            case atStart => exact ⟨0, by omega, rfl, by simpa [outU] using HO.out, HQ.out⟩
            case round =>
              obtain ⟨k, hk, rfl, hO, hq⟩ := hrel
              by_cases hkM : k < M
              · have hdk : decide (k < M) = true := by simpa using hkM
                have hsn := outU_succ W k
                have hlen : (acc ++ outU W k).length + 1 ≤ 140737488355400 := by rw [List.length_append, outU_length]; omega
                have hby : (W : Int) / 2 ^ (16 - 8 * k) % 256 = ((byteOf ((W / 2 ^ (16 - 8 * k) % 256 : Nat) : Int)).toNat : Int) := by
                  rw [byteOf_int _ (by omega) (by omega), Int.natCast_emod, Int.natCast_ediv, Int.natCast_pow]; rfl
                generalize byteOf ((W / 2 ^ (16 - 8 * k) % 256 : Nat) : Int) = BB at *
                have HSN := Lib.hid hsn
                have HLEN := Lib.hid hlen
                have HO2 := Lib.hid hO
                have HQ2 := Lib.hid hq
                clear hsn hlen hO hq
                go_wp2_with (at_builtin; refine wpList_append_b rfl (.tmp 94) (.tmp 101) rfl w wr _ (acc ++ outU W k) (by rfl) HO2.out HQ2.out [BB] 1 rfl (by rfl) (by have := HLEN.out; omega) ?_; intro v2 w2 hown2 hq2 _; have HO3 := Lib.hid hown2; have HQ3 := Lib.hid hq2; clear hown2 hq2)
                go_roundw
                case rel => exact ⟨k + 1, by omega, by go_num, by rw [HSN.out, ← List.append_assoc]; exact HO3.out, HQ3.out⟩
                case measure => simp [intOf]; omega
              · obtain rfl : k = M := by omega
                have hdk : decide (k < k) = false := by simp
                have HO2 := Lib.hid hO
                have HQ2 := Lib.hid hq
                clear hO hq
                go_wp2_with fail
                go_roundw
                case rel => exact ⟨j + 1, acc ++ outU W k, by have := HAT.out; omega, by rw [HAT.out]; go_num, HUN3, by rw [List.length_append, outU_length]; omega, HO2.out, HQ2.out⟩
                case measure => simp [intOf]; omega
          · have hb : ((Y : Int) % 16777216 != 0) = true := by simp; omega
            have hun3 : unbase64L l = (([], 50, ((at_ + m - 1 : Nat) : Int)) : List UInt8 × Int × Int) := by rw [HUN2.out, if_pos hz]
            have HUN3 := Lib.hid hun3
            clear hun3 ei
            go_wp2_with fail
            go_ret3
            refine ⟨?_, HQ.out⟩
            rw [HUN3.out]
            exact ret_eq (by rw [show ((at_ + m - 1 : Nat) : Int) = (at_ : Int) + (m : Int) - 1 from by omega]; rfl)
    · have hdone : (l.length + 3) / 4 - j = 0 := by omega
      have hd0 : decide (at_ < l.length) = false := by simpa using h0
      have hres : unbase64L l = (acc, 0, 0) := by rw [hgo.out, hdone]; rfl
      have hcv := conv_b hO
      have HR := Lib.hid hres
      have HQ := Lib.hid hq
      clear hres hO hq hgo hdone
      go_wp2_with fail
      go_ret3
      exact ⟨by rw [HR.out]; rfl, HQ.out⟩
end Go.Proofs.Yteadblkkbbhpjaa
