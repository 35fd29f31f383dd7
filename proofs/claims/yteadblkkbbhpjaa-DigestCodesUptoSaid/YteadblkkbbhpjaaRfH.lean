/- The reference's Unbase64. -/
import Derived.Test.YteadblkkbbhpjaaRfG
set_option linter.unusedVariables false
namespace Go.Proofs.Yteadblkkbbhpjaa
open Go Go.RowKit
theorem place_six (c : UInt8) (w : World) : Calls Try.prog 61 #[.string ⟨#[65, 66, 67, 68, 69, 70, 71, 72, 73, 74, 75, 76, 77, 78, 79, 80, 81, 82, 83, 84, 85, 86, 87, 88, 89, 90, 97, 98, 99, 100, 101, 102, 103, 104, 105, 106, 107, 108, 109, 110, 111, 112, 113, 114, 115, 116, 117, 118, 119, 120, 121, 122, 48, 49, 50, 51, 52, 53, 54, 55, 56, 57, 43, 47]⟩, .int .u8 (c.toNat : Int)] w fun e w' => e = .returned (.int .i64 (sixI c)) ∧ w = w' :=
  place_any b64d c w (by decide)
theorem outU_take (W M : Nat) (h : M ≤ 3) : outU W M = [byteOf ((W / 65536 % 256 : Nat) : Int), byteOf ((W / 256 % 256 : Nat) : Int), byteOf ((W % 256 : Nat) : Int)].take M := by
  match M, h with
  | 0, _ => rfl
  | 1, _ => rfl
  | 2, _ => rfl
  | 3, _ => simp [outU, List.range, List.range.loop]
theorem n64 (W N k : Nat) (hk : k < 4) (h : W = N * 2 ^ (24 - 6 * k)) : W = 64 * N * 2 ^ (24 - 6 * (k + 1)) := by
  rw [h, show 24 - 6 * k = 6 + (24 - 6 * (k + 1)) from by omega, Nat.pow_add, Nat.mul_comm 64 N, Nat.mul_assoc]
theorem le_pow (N e : Nat) : N ≤ N * 2 ^ e := Nat.le_mul_of_pos_right _ (Nat.two_pow_pos _)
theorem six61 : sixI 61 = -1 := by decide +kernel
theorem c61 {c : UInt8} (h : c ≠ 61) : ((c.toNat : Int) == 61) = false := by
  rw [beq_eq_false_iff_ne]
  intro e
  exact h (UInt8.toNat_inj.1 (by simpa using (by omega : c.toNat = 61)))
theorem un_good (W m : Nat) (h2 : 2 ≤ m) (h4 : m ≤ 4) (h0 : W % 2 ^ (24 - 6 * m) = 0) (hz : W * 2 ^ (8 * (m - 1)) % 16777216 = 0) :
    (((m : Int) == 2) = true ∧ ((W : Int) / 4096 % 16 != 0) = false ∧ ((m : Int) == 3) = false) ∨ (((m : Int) == 2) = false ∧ ((m : Int) == 3) = true ∧ ((W : Int) / 64 % 4 != 0) = false) ∨ (((m : Int) == 2) = false ∧ ((m : Int) == 3) = false ∧ True) := by
  rcases (by omega : m = 2 ∨ m = 3 ∨ m = 4) with rfl | rfl | rfl
  · left; refine ⟨by decide, ?_, by decide⟩
    simp only [Nat.reduceMul, Nat.reduceSub, Nat.reducePow] at hz h0
    rw [bne_eq_false_iff_eq]; omega
  · right; left; refine ⟨by decide, by decide, ?_⟩
    simp only [Nat.reduceMul, Nat.reduceSub, Nat.reducePow] at hz h0
    rw [bne_eq_false_iff_eq]; omega
  · right; right; exact ⟨by decide, by decide, trivial⟩
theorem un_bad (W m : Nat) (h2 : 2 ≤ m) (h4 : m ≤ 4) (h0 : W % 2 ^ (24 - 6 * m) = 0) (hz : ¬ W * 2 ^ (8 * (m - 1)) % 16777216 = 0) :
    (((m : Int) == 2) = true ∧ ((W : Int) / 4096 % 16 != 0) = true ∧ ((m : Int) == 3) = false) ∨ (((m : Int) == 2) = false ∧ ((m : Int) == 3) = true ∧ ((W : Int) / 64 % 4 != 0) = true) := by
  rcases (by omega : m = 2 ∨ m = 3 ∨ m = 4) with rfl | rfl | rfl
  · left; refine ⟨by decide, ?_, by decide⟩
    simp only [Nat.reduceMul, Nat.reduceSub, Nat.reducePow] at hz h0
    rw [bne_iff_ne]; omega
  · right; refine ⟨by decide, by decide, ?_⟩
    simp only [Nat.reduceMul, Nat.reduceSub, Nat.reducePow] at hz h0
    rw [bne_iff_ne]; omega
  · exfalso; simp only [Nat.reduceMul, Nat.reduceSub, Nat.reducePow] at hz; omega
/-- One sign more. -/
theorem scan_more (W k d X : Nat) (hk : k < 4) (hd : d ≤ 63) (hX : X = d * 2 ^ (18 - 6 * k)) (hW : W < 16777216) (hW0 : W % 2 ^ (24 - 6 * k) = 0) : W + X < 16777216 ∧ (W + X) % 2 ^ (24 - 6 * (k + 1)) = 0 := by
  have hX1 : X < 2 ^ (24 - 6 * k) := by
    rw [hX, show 24 - 6 * k = 6 + (18 - 6 * k) from by omega, Nat.pow_add]
    exact Nat.mul_lt_mul_of_pos_right (by omega) (Nat.two_pow_pos _)
  constructor
  · have h2 : W + 2 ^ (24 - 6 * k) ≤ 16777216 := by
      have hd : 2 ^ (24 - 6 * k) ∣ 16777216 - W := Nat.dvd_sub (show 2 ^ (24 - 6 * k) ∣ 2 ^ 24 from Nat.pow_dvd_pow 2 (by omega)) (Nat.dvd_of_mod_eq_zero hW0)
      have := Nat.le_of_dvd (by omega) hd
      omega
    omega
  · have h1 : W % 2 ^ (24 - 6 * (k + 1)) = 0 := Nat.mod_eq_zero_of_dvd (Nat.dvd_trans (Nat.pow_dvd_pow 2 (by omega)) (Nat.dvd_of_mod_eq_zero hW0))
    have h2 : X % 2 ^ (24 - 6 * (k + 1)) = 0 := by rw [hX, show 24 - 6 * (k + 1) = 18 - 6 * k from by omega]; exact Nat.mul_mod_left _ _
    rw [Nat.add_mod, h1, h2]; simp
set_option maxRecDepth 100000 in
set_option maxHeartbeats 8000000 in
theorem RUnbase64_any (l : List UInt8) (w : World) (hl : l.length ≤ 105553116266000) : Calls Try.prog 32 #[.string ⟨l.toArray⟩] w (UnPost (unbase64L l) w) := by
  go_enter Try.func32, Try.ntmps32
  go_wp2_with fail
  go_loopw [5, 6] (fun v a wr => ∃ (j at_ : Nat) (acc : List UInt8), at_ = 4 * j ∧ at_ ≤ l.length + 3 ∧ a = .int .i64 (at_ : Nat) ∧ Hid (unbase64L l = unGo l ((l.length + 3) / 4 - j) at_ acc) ∧ acc.length ≤ 3 * j ∧ OwnB w wr v acc ∧ Q w wr) (fun _ a _ => l.length + 3 - (intOf a).toNat)
  case atStart => exact ⟨0, 0, [], rfl, by omega, rfl, Lib.hid rfl, by simp, OwnB.nil _ _, Q.refl _⟩
  case round =>
    obtain ⟨j, at_, acc, hat, hj, rfl, hgo, hacc, hO, hq⟩ := hrel
    by_cases h0 : at_ < l.length
    · have hd0 : decide (at_ < l.length) = true := by simpa using h0
      obtain ⟨f, hf⟩ : ∃ f, (l.length + 3) / 4 - j = f + 1 := ⟨(l.length + 3) / 4 - j - 1, by omega⟩
      have hf2 : (l.length + 3) / 4 - (j + 1) = f := by omega
      rw [hf] at hgo
      obtain ⟨la, hla⟩ : ∃ la, la = decide (l.length ≤ at_ + 4) := ⟨_, rfl⟩
      have hla2 : decide ((l.length : Int) - (at_ : Int) ≤ 4) = la := by rw [hla]; simp; omega
      have hun : unbase64L l = (match scanU l at_ la 4 0 0 0 with
        | .inl p => ([], 50, p)
        | .inr (w, m) => if w * 2 ^ (8 * (m - 1)) % 16777216 ≠ 0 then ([], 50, (at_ + m - 1 : Nat)) else unGo l f (at_ + 4) (acc ++ outU w (m - 1))) := by
        rw [hgo.out, hla]; rfl
      have HUN := Lib.hid hun
      have HO := Lib.hid hO
      have HQ := Lib.hid hq
      have HAT := Lib.hid hat
      have HF2 := Lib.hid hf2
      clear hgo hf hf2 hun hO hq hat hla
      go_upto_region 8 with (fail)
      clear hla2
      go_wp2_with fail
      go_loop [7, 8, 10] (fun nv mv kv => ∃ k W m N : Nat, k ≤ 4 ∧ kv = .int .i64 k ∧ nv = .int .i64 N ∧ mv = .int .i64 m ∧ Hid (scanU l at_ la 4 0 0 0 = scanU l at_ la (4 - k) k W m) ∧ m ≤ k ∧ (m = k ∨ (2 ≤ m ∧ la = true)) ∧ W < 16777216 ∧ Hid (W % 2 ^ (24 - 6 * m) = 0) ∧ N ≤ W ∧ Hid (W = N * 2 ^ (24 - 6 * k))) (fun _ _ kv => 4 - (intOf kv).toNat)
      case atStart => exact ⟨0, 0, 0, 0, by omega, rfl, rfl, rfl, Lib.hid rfl, by omega, .inl rfl, by omega, Lib.hid rfl, by omega, Lib.hid rfl⟩
      case round =>
        obtain ⟨k, W, m, N, hk, rfl, rfl, rfl, hsc, hmk, hm2, hW, hW0, hN, hWN⟩ := hrel
        by_cases hk4 : k < 4
        · have hd4 : decide ((k : Int) < 4) = true := by simp; omega
          obtain ⟨f', hf'⟩ : ∃ f', 4 - k = f' + 1 := ⟨3 - k, by omega⟩
          rw [hf'] at hsc
          have hf2 : 4 - (k + 1) = f' := by omega
          obtain ⟨i0, hi0⟩ : ∃ i0, i0 = at_ + k := ⟨_, rfl⟩
          have ei : (at_ : Int) + (k : Int) = (i0 : Int) := by omega
          by_cases hlen : l.length ≤ i0
          · have hdl : decide (l.length ≤ i0) = true := by simpa using hlen
            have hres : unbase64L l = ([], 50, (l.length : Int)) := by rw [HUN.out, hsc.out, scanU, if_pos (by omega)]
            have HR := Lib.hid hres
            clear hres hsc hf' hf2 hi0
            go_wp2_with fail
            go_ret3
            exact ⟨by rw [HR.out]; rfl, HQ.out⟩
          · have hdl : decide (l.length ≤ i0) = false := by simpa using hlen
            have hdl2 : decide (i0 < l.length) = true := by simp; omega
            have hstep : scanU l at_ la 4 0 0 0 = (if 0 ≤ sixI (gB l i0) ∧ m = k then scanU l at_ la f' (k + 1) (W + (sixI (gB l i0)).toNat * 2 ^ (18 - 6 * m)) (m + 1)
                else if gB l i0 = 61 ∧ la = true ∧ 2 ≤ k then scanU l at_ la f' (k + 1) W m else .inl i0) := by
              rw [hsc.out, scanU, if_neg (by omega), ← hi0]
            have hb := sixI_bd (gB l i0)
            have h61 : gB l i0 = 61 → sixI (gB l i0) = -1 := fun e => by rw [e]; exact six61
            have hN64 := n64 W N k hk4 hWN.out
            have hN64b : 64 * N ≤ W := by rw [hN64]; exact le_pow _ _
            have HST := Lib.hid hstep
            have HF' := Lib.hid hf2
            have HI0 := Lib.hid hi0
            have HN64 := Lib.hid hN64
            have H61 := Lib.hid h61
            clear hsc hf' hf2 hstep hi0 hN64 h61 hWN
            generalize hD : sixI (gB l i0) = d at *
            have HD := Lib.hid hD
            clear hD
            by_cases hmk' : m = k
            · subst hmk'
              by_cases hd0' : 0 ≤ d
              · have hc61 := c61 (c := gB l i0) (fun e => by have := H61.out e; omega)
                have t1 : decide (d < 0) = false := by simp; omega
                have t2 : decide (0 ≤ d) = true := by simp; omega
                obtain ⟨X, hX⟩ : ∃ X, X = d.toNat * 2 ^ (18 - 6 * m) := ⟨_, rfl⟩
                obtain ⟨hs1, hs2⟩ := scan_more W m d.toNat X hk4 (by omega) hX hW hW0.out
                have hres : scanU l at_ la 4 0 0 0 = scanU l at_ la (4 - (m + 1)) (m + 1) (W + X) (m + 1) := by rw [HST.out, if_pos ⟨hd0', rfl⟩, ← hX, HF'.out]
                have hN2 : W + X = (64 * N + d.toNat) * 2 ^ (24 - 6 * (m + 1)) := by rw [Nat.add_mul, ← HN64.out, hX, show 24 - 6 * (m + 1) = 18 - 6 * m from by omega]
                have hN3 : 64 * N + d.toNat ≤ W + X := by rw [hN2]; exact le_pow _ _
                have HRES := Lib.hid hres
                have HS2 := Lib.hid hs2
                have HN2 := Lib.hid hN2
                have HN3 := Lib.hid hN3
                clear hX hres hs2 hN2 hW0 hN3
                go_wp2_with (go_at_call 61; refine (place_six _ _).mono ?_; rintro e w' ⟨rfl, rfl⟩; rw [HD.out])
                go_round
                case rel => exact ⟨m + 1, W + X, m + 1, 64 * N + d.toNat, by omega, by go_num, by go_num, by go_num, HRES, by omega, .inl rfl, hs1, HS2, HN3.out, HN2⟩
                case measure => simp [intOf]; omega
              · have t1 : decide (d < 0) = true := by simp; omega
                have t2 : decide (0 ≤ d) = false := by simp; omega
                by_cases hc : gB l i0 = 61
                · have t0 : (((gB l i0).toNat : Int) == 61) = true := by rw [hc]; rfl
                  have HCC := Lib.hid hc
                  clear hc
                  cases hla3 : la
                  · subst hla3
                    have hres : unbase64L l = ([], 50, (i0 : Int)) := by rw [HUN.out, HST.out, if_neg (fun h => absurd h.1 (by omega)), if_neg (fun h => by cases h.2.1)]
                    have HR := Lib.hid hres
                    clear hres
                    go_wp2_with (go_at_call 61; refine (place_six _ _).mono ?_; rintro e w' ⟨rfl, rfl⟩; rw [HD.out])
                    go_ret3
                    exact ⟨by rw [HR.out]; rfl, HQ.out⟩
                  · by_cases hk2 : 2 ≤ m
                    · have t3 : decide ((2 : Int) ≤ (m : Int)) = true := by simp; omega
                      have t4 : decide (2 ≤ m) = true := by simp; omega
                      have hres : scanU l at_ la 4 0 0 0 = scanU l at_ la (4 - (m + 1)) (m + 1) W m := by rw [HST.out, if_neg (fun h => absurd h.1 (by omega)), if_pos (⟨HCC.out, hla3, hk2⟩), HF'.out]
                      have HRES := Lib.hid hres
                      clear hres
                      subst hla3
                      go_wp2_with (go_at_call 61; refine (place_six _ _).mono ?_; rintro e w' ⟨rfl, rfl⟩; rw [HD.out])
                      go_round
                      case rel => exact ⟨m + 1, W, m, 64 * N, by omega, by go_num, by go_num, rfl, HRES, by omega, .inr ⟨by omega, trivial⟩, hW, hW0, hN64b, HN64.out⟩
                      case measure => simp [intOf]; omega
                    · have t3 : decide ((2 : Int) ≤ (m : Int)) = false := by simp; omega
                      have t4 : decide (2 ≤ m) = false := by simp; omega
                      subst hla3
                      have hres : unbase64L l = ([], 50, (i0 : Int)) := by rw [HUN.out, HST.out, if_neg (fun h => absurd h.1 (by omega)), if_neg (fun h => hk2 h.2.2)]
                      have HR := Lib.hid hres
                      clear hres
                      go_wp2_with (go_at_call 61; refine (place_six _ _).mono ?_; rintro e w' ⟨rfl, rfl⟩; rw [HD.out])
                      go_ret3
                      exact ⟨by rw [HR.out]; rfl, HQ.out⟩
                · have t0 := c61 hc
                  have HCC := Lib.hid hc
                  clear hc
                  cases hla3 : la
                  · subst hla3
                    have hres : unbase64L l = ([], 50, (i0 : Int)) := by rw [HUN.out, HST.out, if_neg (fun h => absurd h.1 (by omega)), if_neg (fun h => HCC.out h.1)]
                    have HR := Lib.hid hres
                    clear hres
                    go_wp2_with (go_at_call 61; refine (place_six _ _).mono ?_; rintro e w' ⟨rfl, rfl⟩; rw [HD.out])
                    go_ret3
                    exact ⟨by rw [HR.out]; rfl, HQ.out⟩
                  · subst hla3
                    by_cases hk2 : 2 ≤ m
                    · have t3 : decide ((2 : Int) ≤ (m : Int)) = true := by simp; omega
                      have t4 : decide (2 ≤ m) = true := by simp; omega
                      have hres : unbase64L l = ([], 50, (i0 : Int)) := by rw [HUN.out, HST.out, if_neg (fun h => absurd h.1 (by omega)), if_neg (fun h => HCC.out h.1)]
                      have HR := Lib.hid hres
                      clear hres
                      go_wp2_with (go_at_call 61; refine (place_six _ _).mono ?_; rintro e w' ⟨rfl, rfl⟩; rw [HD.out])
                      go_ret3
                      exact ⟨by rw [HR.out]; rfl, HQ.out⟩
                    · have t3 : decide ((2 : Int) ≤ (m : Int)) = false := by simp; omega
                      have t4 : decide (2 ≤ m) = false := by simp; omega
                      have hres : unbase64L l = ([], 50, (i0 : Int)) := by rw [HUN.out, HST.out, if_neg (fun h => absurd h.1 (by omega)), if_neg (fun h => HCC.out h.1)]
                      have HR := Lib.hid hres
                      clear hres
                      go_wp2_with (go_at_call 61; refine (place_six _ _).mono ?_; rintro e w' ⟨rfl, rfl⟩; rw [HD.out])
                      go_ret3
                      exact ⟨by rw [HR.out]; rfl, HQ.out⟩
            · obtain ⟨hm3, hla3⟩ : 2 ≤ m ∧ la = true := by rcases hm2 with h | h; exact absurd h hmk'; exact h
              have t3 : decide ((2 : Int) ≤ (k : Int)) = true := by simp; omega
              have t4 : decide (2 ≤ k) = true := by simp; omega
              have t5 : decide (m < k) = true := by simp; omega
              have HMK := Lib.hid hmk'
              clear hm2
              by_cases hc : gB l i0 = 61
              · have t0 : (((gB l i0).toNat : Int) == 61) = true := by rw [hc]; rfl
                have HCC := Lib.hid hc
                clear hc
                have hres : scanU l at_ la 4 0 0 0 = scanU l at_ la (4 - (k + 1)) (k + 1) W m := by rw [HST.out, if_neg (fun h => hmk' h.2), if_pos (⟨HCC.out, hla3, by omega⟩), HF'.out]
                have HRES := Lib.hid hres
                clear hres
                subst hla3
                go_wp2_with (go_at_call 61; refine (place_six _ _).mono ?_; rintro e w' ⟨rfl, rfl⟩; rw [HD.out])
                go_round
                case rel => exact ⟨k + 1, W, m, 64 * N, by omega, by go_num, by go_num, rfl, HRES, by omega, .inr ⟨by omega, trivial⟩, hW, hW0, hN64b, HN64.out⟩
                case measure => simp [intOf]; omega
              · have t0 := c61 hc
                have HCC := Lib.hid hc
                clear hc
                subst hla3
                have hres : unbase64L l = ([], 50, (i0 : Int)) := by rw [HUN.out, HST.out, if_neg (fun h => hmk' h.2), if_neg (fun h => HCC.out h.1)]
                have HR := Lib.hid hres
                clear hres
                go_wp2_with (go_at_call 61; refine (place_six _ _).mono ?_; rintro e w' ⟨rfl, rfl⟩; rw [HD.out])
                go_ret3
                exact ⟨by rw [HR.out]; rfl, HQ.out⟩
        · obtain rfl : k = 4 := by omega
          rw [show ((4 : Nat) : Int) = 4 from rfl]
          have hd4 : decide ((4 : Int) < 4) = false := by decide
          have hm2' : 2 ≤ m := by omega
          have hWN' : W = N := by have := hWN.out; simpa using this
          subst hWN'
          rw [show 4 - 4 = 0 from rfl] at hsc
          have hun2 : unbase64L l = (if W * 2 ^ (8 * (m - 1)) % 16777216 ≠ 0 then (([], 50, ((at_ + m - 1 : Nat) : Int)) : List UInt8 × Int × Int) else unGo l f (at_ + 4) (acc ++ outU W (m - 1))) := by
            rw [HUN.out, hsc.out]; rfl
          have HUN2 := Lib.hid hun2
          have HW0 := Lib.hid hW0.out
          clear hun2 hsc hW0 hWN hm2
          by_cases hz : W * 2 ^ (8 * (m - 1)) % 16777216 = 0
          · have hun3 : unbase64L l = unGo l ((l.length + 3) / 4 - (j + 1)) (at_ + 4) (acc ++ outU W (m - 1)) := by
              rw [HUN2.out, if_neg (by omega), HF2.out]
            have HUN3 := Lib.hid hun3
            have hout := outU_take W (m - 1) (by omega)
            have hfacts := un_good W m hm2' hmk HW0.out hz
            have hb1 : (W : Int) / 65536 = ((byteOf ((W / 65536 % 256 : Nat) : Int)).toNat : Int) := by rw [byteOf_int _ (by omega) (by omega)]; omega
            have hb2 : (W : Int) / 256 % 256 = ((byteOf ((W / 256 % 256 : Nat) : Int)).toNat : Int) := by rw [byteOf_int _ (by omega) (by omega)]; omega
            have hb3 : (W : Int) % 256 = ((byteOf ((W % 256 : Nat) : Int)).toNat : Int) := by rw [byteOf_int _ (by omega) (by omega)]; omega
            generalize byteOf ((W / 65536 % 256 : Nat) : Int) = B1 at *
            generalize byteOf ((W / 256 % 256 : Nat) : Int) = B2 at *
            generalize byteOf ((W % 256 : Nat) : Int) = B3 at *
            have HOUT := Lib.hid hout
            have HB1 := Lib.hid hb1
            have HB2 := Lib.hid hb2
            have HB3 := Lib.hid hb3
            clear hun3 hout hz hb1 hb2 hb3
            rcases hfacts with ⟨q1, q2, q3⟩ | ⟨q1, q2, q3⟩ | ⟨q1, q2, q3⟩
            all_goals
              go_upto_region 27 with (fail)
              clear q1 q2 q3
              have hb1 := HB1.out
              have hb2 := HB2.out
              have hb3 := HB3.out
              have m1 : (0 : Int) ≤ (m : Int) - 1 := by omega
              have m2 : (m : Int) - 1 ≤ 3 := by omega
              have m3 : ((m : Int) - 1).toNat = m - 1 := by omega
              go_upto_region 28 with (fail)
              clear hb1 hb2 hb3
              obtain ⟨w7, hw7, hF7, hq7⟩ : ∃ w7, w7 = (wr.alloc (.cells (arrB [B1, B2, B3]) 5)) ∧ RowT 5 w7 wr.heap.size [B1, B2, B3] ∧ Q wr w7 := ⟨_, rfl, heap_alloc_new wr _, ((Q.refl wr).alloc _)⟩
              refine Eq.mp (congrArg _ hw7) ?_
              clear hw7
              obtain ⟨g, hg⟩ : ∃ g, g = wr.heap.size := ⟨_, rfl⟩
              rw [← hg] at hF7 ⊢
              obtain ⟨M, hM⟩ : ∃ M, M = m - 1 := ⟨_, rfl⟩
              have hlt3 : ([B1, B2, B3].take M).length = M := by rw [List.length_take]; simp; omega
              have hcc : ∀ j (h : j < ([B1, B2, B3].take M).length), w7.cell? ((⟨g, 0, none⟩ : Addr).add j) = some (u8V ([B1, B2, B3].take M)[j]) := fun j h => by
                rw [hlt3] at h
                rw [add_off, Nat.zero_add, hF7.cell j (by simp; omega), List.getElem_take]; simp [u8V, gB, List.getD, show j < 3 by omega]
              have HOUT2 : Hid (acc ++ outU W (m - 1) = acc ++ [B1, B2, B3].take M) := Lib.hid (by rw [HOUT.out, hM])
              have HCC := Lib.hid hcc
              have HL3 := Lib.hid hlt3
              have HO7 := Lib.hid (HO.out.q hq7)
              have HQ7 := Lib.hid (HQ.out.trans hq7)
              rw [← hM] at m3
              clear hcc hlt3 hF7 hq7 hg hM
              go_wp2_with (at_builtin; refine wpList_append_from rfl (.tmp 108) (.tmp 112) rfl w w7 _ acc (by rfl) HO7.out HQ7.out ⟨g, 0, none⟩ ([B1, B2, B3].take M) M 3 HL3.out (by rfl) HCC.out (by have := HAT.out; omega) ?_; intro v9 w9 hown9 hq9 _; have HO9 := Lib.hid hown9; have HQ9 := Lib.hid hq9; clear hown9 hq9)
              go_roundw
              case rel => exact ⟨j + 1, at_ + 4, acc ++ [B1, B2, B3].take M, by rw [HAT.out]; omega, by omega, by go_num, by rw [← HOUT2.out]; exact HUN3, by rw [List.length_append, HL3.out]; omega, HO9.out, HQ9.out⟩
              case measure => simp [intOf]; omega
          · have hfacts := un_bad W m hm2' hmk HW0.out hz
            have hun3 : unbase64L l = (([], 50, ((at_ + m - 1 : Nat) : Int)) : List UInt8 × Int × Int) := by rw [HUN2.out, if_pos hz]
            have HUN3 := Lib.hid hun3
            clear hun3 hz
            rcases hfacts with ⟨q1, q2, q3⟩ | ⟨q1, q2, q3⟩
            all_goals
              go_wp2_with fail
              go_ret3
              refine ⟨?_, HQ.out⟩
              rw [HUN3.out]
              exact ret_eq (by rw [show ((at_ + m - 1 : Nat) : Int) = (at_ : Int) + (m : Int) - 1 from by omega]; rfl)
    · have hdone : (l.length + 3) / 4 - j = 0 := by omega
      have hd0 : decide (at_ < l.length) = false := by simpa using h0
      have hres : unbase64L l = (acc, 0, 0) := by rw [hgo.out, hdone]; rfl
      have hcv := conv_b hO
      have HR := Lib.hid hres
      have HQ := Lib.hid hq
      clear hres hO hq hgo hdone hat
      go_wp2_with fail
      go_ret3
      exact ⟨by rw [HR.out]; rfl, HQ.out⟩
end Go.Proofs.Yteadblkkbbhpjaa
