/- Texts of this proof, laid into one: JnQ, JoF, JoG. -/
import Derived.Test.YtjbdjkpbkjkdpaaGreatDoorMo09
/- The law's known(). -/
set_option linter.unusedVariables false
set_option linter.unusedSimpArgs false
namespace Go.Proofs.YtjbdjkpbkjkdpaaGreatDoor
open Go Go.RowKit
theorem StrS_new (W : World) (ls : List (List UInt8)) (cap : Nat) : StrS (W.alloc (.cells (ls.map strV).toArray 9)) (.slice (some ⟨W.heap.size, 0, none⟩) ls.length cap) ls := by
  have hh : (W.alloc (.cells (ls.map strV).toArray 9)).heap[W.heap.size]? = some (.cells (ls.map strV).toArray 9 (0, 0)) := (MapKept.heap_alloc W _).1
  refine ⟨_, cap, rfl, StrsAt_new W _ ls, fun ad e => ?_⟩
  injection e with e
  subst e
  exact ⟨elemT_of hh, lt_of_heap hh⟩
theorem rack_live {w w1 : World} {bd bp gh : Nat} (h : DAt w w1 bd bp gh newD) : DAt w w1 bd bp gh newD ∧ Live newD ∧ newD.wait = [] := ⟨h, live_new, rfl⟩
set_option maxRecDepth 100000 in
set_option maxHeartbeats 8000000 in
theorem known_any (w : World) : Calls Tryz.prog 5 #[] w fun e w' => e = .returned (.bool true) ∧ Q w w' := by
  go_enter Tryz.func5, Tryz.ntmps5
  go_wp2_with fail
  refine (rack_any w).mono ?_
  rintro e w1 ⟨⟨bd, bp, gh, rfl, hd⟩, hq1⟩
  have HQ1 := Lib.hid hq1
  have HF : Hid (Calls Tryz.prog 13 #[.pointer (some ⟨bd, 0, none⟩), .int .i64 4, .int .i64 10] w1 _) := Lib.hid (Format_inv 4 5 (rack_live hd) (by decide) (by rw [newD_n]; decide) hq1.size)
  clear hd hq1
  go_wp2_with fail
  refine HF.out.mono ?_
  rintro e w2 ⟨bj, d2, rfl, hj, _, hb, hk⟩
  have HJ2 := Lib.hid hj
  have HQ2 := Lib.hid (hk.toQ HQ1.out (by simp))
  have HB : Hid (w.heap.size ≤ bj) := Lib.hid (Nat.le_trans HQ1.out.size hb)
  clear hj hk HF HQ1 hb
  go_wp2_with fail
  refine (Left_inv HJ2.out).mono ?_
  rintro e w3 ⟨rfl, hq⟩
  have HJ3 := Lib.hid (HJ2.out.q hq)
  have HQ3 := Lib.hid (HQ2.out.trans hq)
  clear hq HJ2 HQ2
  rw [show ((5 - (1 + wantS []) : Nat) : Int) = 4 from rfl]
  go_wp2_with fail
  refine (Half_inv HJ3.out).mono ?_
  rintro e w4 ⟨rfl, rfl⟩
  rw [show ((5 - 1 : Nat) : Int) = 4 from rfl]
  go_wp2_with fail
  refine (Epoch_inv HJ3.out).mono ?_
  rintro e w4 ⟨rfl, rfl⟩
  rw [show ((1 : Nat) : Int) = 1 from rfl]
  go_wp2_with fail
  refine (Len_inv HJ3.out).mono ?_
  rintro e w4 ⟨rfl, rfl⟩
  rw [show ((([] : List (List UInt8)).length : Nat) : Int) = 0 from rfl]
  have h40 : (zL 40).length ≤ 60000 := by rw [length_zL]; decide
  have h41 : (zL 41).length ≤ 60000 := by rw [length_zL]; decide
  have n40 : wantN (zL 40) = 1 := by unfold wantN; rw [length_zL]
  have n41 : wantN (zL 41) = 2 := by unfold wantN; rw [length_zL]
  have N40 := Lib.hid n40
  have N41 := Lib.hid n41
  have L40 := Lib.hid h40
  have L41 := Lib.hid h41
  clear n40 n41 h40 h41
  go_wp2_with fail
  refine (text_any 40 w3 (by decide)).mono ?_
  rintro e w5 ⟨rfl, hq⟩
  have HJ5 := Lib.hid (HJ3.out.q hq)
  have HQ5 := Lib.hid (HQ3.out.trans hq)
  clear hq HJ3 HQ3
  go_wp2_with fail
  refine (Append_inv (zL 40) HJ5.out L40.out (by rw [N40.out]; decide) HQ5.out.size).mono ?_
  rintro e w6 ⟨d6, rfl, hj, _, hk⟩
  have HJ6 := Lib.hid hj
  have HQ6 : Hid (Q w w6) := Lib.hid (hk.toQ HQ5.out (by simpa using HB.out))
  clear hj hk HJ5 HQ5
  go_wp2_with fail
  refine (text_any 41 w6 (by decide)).mono ?_
  rintro e w7 ⟨rfl, hq⟩
  have HJ7 := Lib.hid (HJ6.out.q hq)
  have HQ7 := Lib.hid (HQ6.out.trans hq)
  clear hq HJ6 HQ6
  go_wp2_with fail
  refine (Append_inv (zL 41) HJ7.out L41.out (by rw [wantS_snoc, N41.out, N40.out]; decide) HQ7.out.size).mono ?_
  rintro e w8 ⟨d8, rfl, hj, _, hk⟩
  have HJ8 := Lib.hid hj
  have HQ8 : Hid (Q w w8) := Lib.hid (hk.toQ HQ7.out (by simpa using HB.out))
  clear hj hk HJ7 HQ7
  go_wp2_with fail
  refine (text_any 41 w8 (by decide)).mono ?_
  rintro e w9 ⟨rfl, hq⟩
  have HJ9 := Lib.hid (HJ8.out.q hq)
  have HQ9 := Lib.hid (HQ8.out.trans hq)
  clear hq HJ8 HQ8
  go_wp2_with fail
  refine (Append_full (zL 41) HJ9.out L41.out (by rw [wantS_snoc, wantS_snoc, N41.out, N40.out]; decide) HQ9.out.size).mono ?_
  rintro e w10 ⟨⟨v, rfl, hv⟩, hj, hk⟩
  have HJ10 := Lib.hid hj
  have HQ10 : Hid (Q w w10) := Lib.hid (hk.toQ HQ9.out (by simpa using HB.out))
  have HV := Lib.hid hv
  clear hj hk HJ9 HQ9 hv
  go_wp2_with fail
  refine (is_full v w10 HV.out).mono ?_
  rintro e w11 ⟨rfl, rfl⟩
  have HO : Hid (Calls Tryz.prog 12 #[.pointer (some ⟨bd, 0, none⟩), .int .i64 4, .int .i64 10] w10 _) := Lib.hid (Open_inv (f := 4) (half := 5) HJ10.out HQ10.out.size)
  go_wp2_with fail
  refine HO.out.mono ?_
  rintro e w12 ⟨bk, v12, rfl, hs, _, hj, _, hq⟩
  have HS12 := Lib.hid hs
  have HJ12 := Lib.hid hj
  have HQ12 := Lib.hid (HQ10.out.trans hq)
  clear hs hj hq HO HJ10 HQ10 HV
  have hq13 : Q w12 (w12.alloc (.cells ([[120]].map strV).toArray 9)) := (Q.refl _).alloc _
  have HS13 : Hid (StrS (w12.alloc (.cells #[.string ⟨#[120]⟩] 9)) (.slice (some ⟨w12.heap.size, 0, none⟩) 1 1) [[120]]) := Lib.hid (StrS_new w12 [[120]] 1)
  have HJ13 : Hid (JR w (w12.alloc (.cells #[.string ⟨#[120]⟩] 9)) bj bd bp gh 4 5 1 d8 _) := Lib.hid (HJ12.out.q hq13)
  have HQ13 : Hid (Q w (w12.alloc (.cells #[.string ⟨#[120]⟩] 9))) := Lib.hid (HQ12.out.trans hq13)
  have HT13 : Hid (StrS (w12.alloc (.cells #[.string ⟨#[120]⟩] 9)) v12 _) := Lib.hid (HS12.out.q hq13)
  have hpx : wantS [[120]] + 1 ≤ 5 := by decide
  clear hq13 HJ12 HQ12 HS12
  go_wp2_with fail
  generalize w12.alloc (.cells #[.string ⟨#[120]⟩] 9) = W13 at HS13 HJ13 HQ13 HT13 ⊢
  refine (Reset_inv _ [[120]] HJ13.out HS13.out (by simp) hpx (by decide) HQ13.out.size).mono ?_
  rintro e w14 ⟨d14, rfl, hj, _, hk⟩
  have HJ14 := Lib.hid hj
  have HQ14 : Hid (Q w w14) := Lib.hid (hk.toQ HQ13.out (by simpa using HB.out))
  have HT14 := Lib.hid (HT13.out.kr hk HJ13.out)
  clear hj hk HJ13 HQ13 HS13 HT13 hpx
  have HO : Hid (Calls Tryz.prog 12 #[.pointer (some ⟨bd, 0, none⟩), .int .i64 4, .int .i64 10] w14 _) := Lib.hid (Open_inv (f := 4) (half := 5) HJ14.out HQ14.out.size)
  go_wp2_with fail
  refine HO.out.mono ?_
  rintro e w15 ⟨bk2, v15, rfl, hs, _, hj, _, hq⟩
  have HJ15 := Lib.hid hj
  have HQ15 := Lib.hid (HQ14.out.trans hq)
  obtain ⟨A1, c1, rfl, hst1, _⟩ := HT14.out.q hq
  obtain ⟨A2, c2, rfl, hst2, _⟩ := hs
  clear hj hq HO HJ14 HQ14 HT14
  obtain ⟨ad1, rfl, hc1⟩ := hst1.at (i := 1) (by decide)
  obtain ⟨ad2, rfl, hc2⟩ := hst2.at (i := 0) (by decide)
  clear hst1 hst2
  obtain ⟨z, hz⟩ : ∃ z, zL 41 = z := ⟨_, rfl⟩
  have hzl : z.length = 41 := by rw [← hz, length_zL]
  have e1 : gL ([] ++ [zL 40] ++ [zL 41]) 1 = z := hz
  have e2 : gL ([[120]] : List (List UInt8)) 0 = [120] := rfl
  have e3 : ([] ++ [zL 40] ++ [zL 41] : List (List UInt8)).length = 2 := rfl
  have e4 : ([[120]] : List (List UInt8)).length = 1 := rfl
  rw [e1] at hc1
  rw [e2] at hc2
  rw [e3, e4]
  clear e1 e2 e3 e4 hz
  have hc1 : w15.cell? ⟨ad1.block, ad1.off + 1, none⟩ = some (.string ⟨z.toArray⟩) := by simpa [Addr.add] using hc1
  have hc2 : w15.cell? ad2 = some (.string ⟨#[120]⟩) := by simpa [Addr.add] using hc2
  have hzi : (z.length : Int) = 41 := by omega
  have g41 : ((z.length : Int) == 41) = true := by simp; omega
  clear hzl hzi
  go_wp2_with fail
  refine (Epoch_inv HJ15.out).mono ?_
  rintro e w16 ⟨rfl, rfl⟩
  rw [show ((1 + 1 : Nat) : Int) = 2 from rfl]
  go_wp2_with fail
  refine (Left_inv HJ15.out).mono ?_
  rintro e w17 ⟨rfl, hq⟩
  have HJ17 := Lib.hid (HJ15.out.q hq)
  have HQ17 := Lib.hid (HQ15.out.trans hq)
  have hc3 : w17.cell? ad2 = some (.string ⟨#[120]⟩) := hq.cell hc2
  clear hc1 hc2 hq HJ15 HQ15
  rw [show ((5 - (1 + wantS [[120]]) : Nat) : Int) = 3 from rfl]
  go_wp2_with fail
  refine (Len_inv HJ17.out).mono ?_
  rintro e w18 ⟨rfl, rfl⟩
  rw [show (([[120]] : List (List UInt8)).length : Int) = 1 from rfl]
  go_wp2_with fail
  go_ret
  exact ⟨rfl, HQ17.out⟩
end Go.Proofs.YtjbdjkpbkjkdpaaGreatDoor
/- JournalOpens, walked. -/
set_option linter.unusedVariables false
set_option linter.unusedSimpArgs false
namespace Go.Proofs.YtjbdjkpbkjkdpaaGreatDoor
open Go Go.RowKit
theorem pickZ_nat (c : Int) (n : Nat) (hn : 1 ≤ n) : ∃ k : Nat, pickZ c (n : Int) = (k : Int) ∧ k < n := by
  have := pickZ_lt c (n : Int) (by omega)
  exact ⟨(pickZ c (n : Int)).toNat, by omega, by omega⟩
set_option maxRecDepth 100000 in
set_option maxHeartbeats 32000000 in
theorem JournalOpens_walk (fr sz : Int) (A B C D : Option Addr) (NA ca NB cb NC cc ND cd : Nat) (pl ep nu : List Int) (tx : List (List UInt8)) (w : World) (hfr : -9223372036854775808 ≤ fr ∧ fr ≤ 9223372036854775807) (hsz : -9223372036854775808 ≤ sz ∧ sz ≤ 9223372036854775807)
    (hA : IntsAt w A NA pl) (hNA : NA ≤ 9223372036854775807) (hB : StrsAt w B NB tx) (hNB : NB ≤ 9223372036854775807) (hbs : ∀ s ∈ tx, s.length ≤ 9223372036854775807) (hC : IntsAt w C NC ep) (hNC : NC ≤ 9223372036854775807) (hD : IntsAt w D ND nu) (hND : ND ≤ 9223372036854775807) :
    Calls Tryz.prog 3 #[.int .i64 fr, .int .i64 sz, .slice A NA ca, .slice B NB cb, .slice C NC cc, .slice D ND cd] w fun e w' => e = .returned (.bool true) ∧ Q w w' := by
  have HA := Lib.hid hA
  have HB := Lib.hid hB
  have HC := Lib.hid hC
  have HD := Lib.hid hD
  have HBS := Lib.hid hbs
  have HFR := Lib.hid hfr
  have HSZ := Lib.hid hsz
  have hlen : tx.length = NB := hB.1.symm
  have HLEN := Lib.hid hlen
  have hNAi : (NA : Int) ≤ 9223372036854775807 := by omega
  have hNBi : (NB : Int) ≤ 9223372036854775807 := by omega
  clear hA hB hC hD hbs hfr hsz hlen
  go_enter Tryz.func3, Tryz.ntmps3
  go_wp2_with fail
  refine (known_any w).mono ?_
  rintro e w1 ⟨rfl, hq1⟩
  have HQ1 := Lib.hid hq1
  clear hq1
  go_wp2_with fail
  refine (rack_any w1).mono ?_
  rintro e w2 ⟨⟨bd, bp, gh, rfl, hd⟩, hq2⟩
  have HQ2 := Lib.hid hq2
  have HL2 : Hid (LiveAt w1 w2 bd bp gh 64 0) := Lib.hid ⟨newD, hd, live_new, newD_n, Nat.le_refl _⟩
  clear hd hq2
  go_wp2_with fail
  go_loopw [16] (fun iv wr => ∃ i : Nat, i ≤ NB ∧ i ≤ NA ∧ i ≤ 60 ∧ iv = .int .i64 (i : Int) ∧ Hid (LiveAt w1 wr bd bp gh 64 (10 * i)) ∧ Hid (Q w1 wr)) (fun iv _ => 60 - (intOf iv).toNat)
  case atStart => exact ⟨0, by omega, by omega, by omega, rfl, HL2.out, HQ2.out⟩
  case round =>
    clear HL2 HQ2
    obtain ⟨i, hiB, hiA, hi60, rfl, HL, HQ⟩ := hrel
    go_upto_region 6 with (fail)
    go_cut [51] (fun tv wx => tv = .bool (decide (i < NB ∧ i < NA ∧ i < 60)) ∧ Hid (LiveAt w1 wx bd bp gh 64 (10 * i)) ∧ Hid (Q w1 wx))
    case first =>
      by_cases hb : i < NB
      case neg =>
        have g1 : decide (i < NB) = false := decide_eq_false hb
        have gT : decide (i < NB ∧ i < NA ∧ i < 60) = false := decide_eq_false (fun h => hb h.1)
        have GT := Lib.hid gT
        clear gT
        go_wp2_with fail
        go_meet
        exact ⟨by rw [GT.out], HL.out, HQ.out⟩
      have g1 : decide (i < NB) = true := decide_eq_true hb
      by_cases ha : i < NA
      case neg =>
        have g2 : decide (i < NA) = false := decide_eq_false ha
        have gT : decide (i < NB ∧ i < NA ∧ i < 60) = false := decide_eq_false (fun h => ha h.2.1)
        have GT := Lib.hid gT
        clear gT
        go_wp2_with fail
        go_meet
        exact ⟨by rw [GT.out], HL.out, HQ.out⟩
      have g2 : decide (i < NA) = true := decide_eq_true ha
      by_cases h6 : i < 60
      case neg =>
        have g3 : decide ((i : Int) < 60) = false := decide_eq_false (by omega)
        have gT : decide (i < NB ∧ i < NA ∧ i < 60) = false := decide_eq_false (fun h => h6 h.2.2)
        have GT := Lib.hid gT
        clear gT
        go_wp2_with fail
        go_meet
        exact ⟨by rw [GT.out], HL.out, HQ.out⟩
      have g3 : decide ((i : Int) < 60) = true := decide_eq_true (by omega)
      have gT : decide (i < NB ∧ i < NA ∧ i < 60) = true := decide_eq_true ⟨hb, ha, h6⟩
      have GT := Lib.hid gT
      clear gT
      go_wp2_with fail
      go_meet
      exact ⟨by rw [GT.out], HL.out, HQ.out⟩
    case rest =>
    obtain ⟨rfl, HL, HQ⟩ := hcut
    by_cases hlt : i < NB ∧ i < NA ∧ i < 60
    · rw [decide_eq_true hlt]
      obtain ⟨hb, ha, h6⟩ := hlt
      obtain ⟨adB, rfl, hcB⟩ := HB.out.at hb
      obtain ⟨adA, rfl, p, hcA, hp⟩ := HA.out.at ha
      have hcB := (HQ1.out.trans HQ.out).cell hcB
      have HCA : Hid (w.cell? (adA.add i) = some (.int .i64 p)) := Lib.hid hcA
      obtain ⟨s0, hs0⟩ : ∃ s, gL tx i = s := ⟨_, rfl⟩
      have hsl : s0.length ≤ 9223372036854775807 := by
        rw [← hs0]; exact HBS.out _ (by rw [gL, List.getD]; simp [show i < tx.length by rw [HLEN.out]; exact hb])
      rw [hs0] at hcB
      have hsi : (s0.length : Int) ≤ 9223372036854775807 := by omega
      obtain ⟨pk, hpk, hpk64⟩ := pickZ_nat p 64 (by omega)
      have HPK : Hid (∀ w, Calls Tryz.prog 10 #[.int .i64 p, .int .i64 64] w fun e w' => e = .returned (.int .i64 (pk : Int)) ∧ w = w') := Lib.hid (fun w => by rw [← hpk]; exact pick_any p 64 w (by decide) hp)
      have hiL : (i : Int) < 60 := by omega
      clear hs0 hcA hp hpk
      go_upto_if 60 with (fail)
      go_cut [17] (fun sv wx => ∃ s : List UInt8, sv = .string ⟨s.toArray⟩ ∧ s.length ≤ 600 ∧ Hid (LiveAt w1 wx bd bp gh 64 (10 * i)) ∧ Hid (Q w1 wx))
      case first =>
        by_cases hlg : 600 < s0.length
        · have g4 : decide (600 < s0.length) = true := decide_eq_true hlg
          have hl2 : 600 ≤ s0.length := by omega
          have hl3 : (sub s0 0 600).length ≤ 600 := by rw [length_sub]; omega
          go_wp2_with fail
          go_meet
          exact ⟨_, rfl, hl3, HL.out, HQ.out⟩
        · have g4 : decide (600 < s0.length) = false := decide_eq_false hlg
          go_wp2_with fail
          go_meet
          exact ⟨_, rfl, by omega, HL.out, HQ.out⟩
      case rest =>
        obtain ⟨s, rfl, hs6, HL3, HQ3⟩ := hcut
        clear HL HQ hcB hsl hsi
        go_upto_region 11 with (fail)
        go_cut [72] (fun tv wx => tv = .bool (decide (i < NC) && decide (i < ND)) ∧ Hid (LiveAt w1 wx bd bp gh 64 (10 * i)) ∧ Hid (Q w1 wx))
        case first =>
          by_cases hc : i < NC
          case neg =>
            have g5 : decide (i < NC) = false := decide_eq_false hc
            go_wp2_with fail
            go_meet
            rw [g5]
            exact ⟨rfl, HL3.out, HQ3.out⟩
          have g5 : decide (i < NC) = true := decide_eq_true hc
          by_cases hd : i < ND
          case neg =>
            have g6 : decide (i < ND) = false := decide_eq_false hd
            go_wp2_with fail
            go_meet
            rw [g5, g6]
            exact ⟨rfl, HL3.out, HQ3.out⟩
          have g6 : decide (i < ND) = true := decide_eq_true hd
          go_wp2_with fail
          go_meet
          rw [g5, g6]
          exact ⟨rfl, HL3.out, HQ3.out⟩
        case rest =>
        obtain ⟨rfl, HL3, HQ3⟩ := hcut
        obtain ⟨TB, hTB⟩ : ∃ b, (decide (i < NC) && decide (i < ND)) = b := ⟨_, rfl⟩
        rw [hTB]
        have HTB := Lib.hid hTB
        clear hTB
        go_upto_if 72 with (fail)
        go_cut [17] (fun sv wx => ∃ s : List UInt8, sv = .string ⟨s.toArray⟩ ∧ s.length ≤ 640 ∧ Hid (LiveAt w1 wx bd bp gh 64 (10 * i)) ∧ Hid (Q w1 wx))
        case first =>
          cases TB with
          | false =>
            go_wp2_with fail
            go_meet
            exact ⟨s, rfl, by omega, HL3.out, HQ3.out⟩
          | true =>
          have hcd := HTB.out
          rw [Bool.and_eq_true] at hcd
          have hc := of_decide_eq_true hcd.1
          have hd := of_decide_eq_true hcd.2
          clear hcd HTB
          obtain ⟨adC, rfl, e0, hcC, he0⟩ := HC.out.at hc
          obtain ⟨adD, rfl, n0, hcD, hn0⟩ := HD.out.at hd
          have hcC := (HQ1.out.trans HQ3.out).cell hcC
          have hcD := (HQ1.out.trans HQ3.out).cell hcD
          have hci : (i : Int) < (NC : Int) := by omega
          have hdi : (i : Int) < (ND : Int) := by omega
          have kC : ∀ m : QW wc, m.val.cell? (adC.add i) = some (.int .i64 e0) := fun m => m.cell hcC
          have kD : ∀ m : QW wc, m.val.cell? (adD.add i) = some (.int .i64 n0) := fun m => m.cell hcD
          cases hr : rightB e0 n0 with
          | true =>
            have HP := Lib.hid (fun w => RPack_ok e0 n0 s w (by omega) hr)
            have hpl := packL_len64 e0 n0 s
            have hwn : wantN s ≤ 10 := by unfold wantN; omega
            obtain ⟨P, hP⟩ : ∃ P, packL e0 n0 s = P := ⟨_, rfl⟩
            rw [hP] at HP hpl
            have hPl : P.length ≤ 640 := by omega
            clear hpl hwn hP hcC hcD hr
            go_wp2_with fail
            refine wp_region_q (by kernel_rfl) (by kernel_rfl) ?_
            (repeat (go_big_quiet_step ((go_at_call 7; exact calls_q (HP.out _)))))
            refine wpQuiet_nil ?_
            rintro wa ⟨ma, hma⟩
            have hqa : Q wc wa := by rw [hma]; exact ma.le
            clear hma ma kC kD
            go_wp2_with fail
            go_meet
            exact ⟨P, rfl, hPl, HL3.out.q hqa, HQ3.out.trans hqa⟩
          | false =>
            have HP := Lib.hid (fun w => RPack_bad e0 n0 s w (by omega) (.inl hr))
            clear hcC hcD hr
            go_wp2_with fail
            refine wp_region_q (by kernel_rfl) (by kernel_rfl) ?_
            (repeat (go_big_quiet_step ((go_at_call 7; exact calls_qs (HP.out _)))))
            refine wpQuiet_nil ?_
            rintro wa ⟨ma, hma⟩
            have hqa : Q wc wa := by rw [hma]; exact ma.le
            clear hma ma kC kD
            go_wp2_with fail
            go_meet
            exact ⟨s, rfl, by omega, HL3.out.q hqa, HQ3.out.trans hqa⟩
        case rest =>
          obtain ⟨s1, rfl, hs1, HL4, HQ4⟩ := hcut
          clear HL3 HQ3 hs6
          have hpd := padL_len s1
          have HTX : Hid (∀ w, Calls Tryz.prog 8 #[.int .i64 (63 - ((s1.length : Int) + 63) % 64)] w fun e w' => e = .returned (.string ⟨(zL (63 - (s1.length + 63) % 64)).toArray⟩) ∧ Q w w') := Lib.hid (fun w => by
            have := text_any (63 - (s1.length + 63) % 64) w (by omega)
            rwa [show ((63 - (s1.length + 63) % 64 : Nat) : Int) = 63 - ((s1.length : Int) + 63) % 64 by omega] at this)
          have hzl : (zL (63 - (s1.length + 63) % 64)).length ≤ 63 := by rw [length_zL]; omega
          have hPE : s1 ++ zL (63 - (s1.length + 63) % 64) = padL s1 := rfl
          obtain ⟨Z, hZ⟩ : ∃ Z, zL (63 - (s1.length + 63) % 64) = Z := ⟨_, rfl⟩
          obtain ⟨P, hP⟩ : ∃ P, padL s1 = P := ⟨_, rfl⟩
          obtain ⟨M, hM⟩ : ∃ M, (s1.length + 63) / 64 = M := ⟨_, rfl⟩
          rw [hZ] at HTX hzl hPE
          rw [hP] at hpd hPE
          rw [hM] at hpd
          have hM10 : M ≤ 10 := by omega
          have HPE := Lib.hid hPE
          have HPD := Lib.hid hpd
          have b1 : 0 ≤ ((s1.length : Int) + 63) % 64 := by omega
          have b2 : ((s1.length : Int) + 63) % 64 ≤ 63 := by omega
          clear hZ hP hM hPE hpd
          go_upto_region 15 with (fail)
          go_upto_region 16 with (go_at_call 8; refine (HTX.out _).mono ?_; rintro e w5 ⟨rfl, hq5⟩)
          rw [HPE.out]
          have HL5 := Lib.hid (HL4.out.q hq5)
          have HQ5 := Lib.hid (HQ4.out.trans hq5)
          have hPb : P.length ≤ 640 := by rw [HPD.out]; omega
          clear HL4 HQ4 hq5 HTX HPE hzl b1 b2 hs1
          go_wp2_with fail
          go_loopw [20] (fun kv wr => ∃ k : Nat, k ≤ M ∧ kv = .int .i64 (k : Int) ∧ Hid (LiveAt w1 wr bd bp gh 64 (10 * i + k)) ∧ Hid (Q w1 wr)) (fun kv _ => M - (intOf kv).toNat)
          case atStart => exact ⟨0, by omega, rfl, HL5.out, HQ5.out⟩
          case round =>
            clear HL5 HQ5
            obtain ⟨k, hk, rfl, HL6, HQ6⟩ := hrel
            by_cases hkM : k < M
            · have hkP : 64 * k + 64 ≤ P.length := by rw [HPD.out]; omega
              have g7 : decide ((k : Int) * 64 < (P.length : Int)) = true := decide_eq_true (by omega)
              have t1 : (64 * (k : Int)).toNat = 64 * k := by omega
              have t2 : (64 * (k : Int) + 64).toNat = 64 * k + 64 := by omega
              have b1 : 64 * (k : Int) + 64 ≤ (P.length : Int) := by omega
              have b2 : (P.length : Int) ≤ 640 := by omega
              have b3 : (k : Int) ≤ 10 := by omega
              have b4 : (pk : Int) ≤ 64 := by omega
              have kA : ∀ m : QW wr, m.val.cell? (adA.add i) = some (.int .i64 p) := fun m => m.cell ((HQ1.out.trans HQ6.out).cell HCA.out)
              have hsl64 : (sub P (64 * k) (64 * k + 64)).length = 64 := by rw [length_sub]; omega
              have HWR : Hid (∀ w', LiveAt w1 w' bd bp gh 64 (10 * i + k) → Q w1 w' → Calls Tryz.prog 9 #[.pointer (some ⟨bd, 0, none⟩), .int .i64 (((pk : Int) + (k : Int)) % 64), .string ⟨(sub P (64 * k) (64 * k + 64)).toArray⟩] w' fun e w'' => e = .returned .nilIface ∧ LiveAt w1 w'' bd bp gh 64 (10 * i + k + 1) ∧ Q w1 w'') := Lib.hid (fun w' h1 h2 => by
                have := Write_live ((pk + k) % 64) (sub P (64 * k) (64 * k + 64)) h1 (by omega) hsl64 (by omega) h2
                rwa [show (((pk + k) % 64 : Nat) : Int) = ((pk : Int) + (k : Int)) % 64 by omega] at this)
              have HNAI := Lib.hid hNAi
              clear hsl64 hkP
              go_upto_region 19 with (fail)
              refine wp_region_q_tail 16 (by kernel_rfl) (by kernel_rfl) ?_
              simp only [List.take_succ_cons, List.take_zero, List.drop_succ_cons, List.drop_zero, Act.put]
              (repeat (go_big_quiet_step ((go_at_call 10; exact calls_qs (HPK.out _)))))
              refine wpQuiet_nil ?_
              rintro wa ⟨ma, hma⟩
              have hqa : Q wr wa := by rw [hma]; exact ma.le
              have HW2 := Lib.hid (HWR.out wa (HL6.out.q hqa) (HQ6.out.trans hqa))
              clear hma ma hqa kA HWR HL6 HQ6
              go_wp2_with fail
              refine HW2.out.mono ?_
              rintro e w7 ⟨rfl, hl7, hq7⟩
              have HL7 := Lib.hid hl7
              have HQ7 := Lib.hid hq7
              clear hl7 hq7 HW2
              go_wp2_with fail
              go_roundw
              case rel => exact ⟨k + 1, by omega, by go_num, HL7.out, HQ7.out⟩
              case measure => simp [intOf]; omega
            · obtain rfl : k = M := by omega
              have g7 : decide ((k : Int) * 64 < (P.length : Int)) = false := decide_eq_false (by have := HPD.out; omega)
              have HLN : Hid (LiveAt w1 wr bd bp gh 64 (10 * (i + 1))) := Lib.hid (by obtain ⟨d, a1, a2, a3, a4⟩ := HL6.out; exact ⟨d, a1, a2, a3, by omega⟩)
              clear HL6
              go_wp2_with fail
              go_roundw
              case rel => exact ⟨i + 1, by omega, by omega, by omega, by go_num, HLN.out, HQ6.out⟩
              case measure => simp [intOf]; omega
    · rw [decide_eq_false hlt]
      clear hlt hiB hiA
      go_upto_region 21 with (fail)
      have HFL := Lib.hid (Flush_live HL.out (by decide) (by omega) HQ.out)
      clear HL HQ
      go_wp2_with fail
      refine HFL.out.mono ?_
      rintro e w3 ⟨rfl, ⟨d, hd, hl, hn, hw⟩, hq3⟩
      have HD3 := Lib.hid hd
      have HLV := Lib.hid hl
      have HN := Lib.hid hn
      have HWT := Lib.hid hw
      have HQ3 := Lib.hid hq3
      clear hd hl hn hw hq3 HFL
      by_cases hm : MayJ fr sz 64
      case neg =>
        have HOB := Lib.hid (Open_bad fr sz HD3.out (by rw [HN.out]; exact hm) HSZ.out)
        have HFB := Lib.hid (fun w' (h : Q w3 w') => Format_bad fr sz (HD3.out.q h) (by rw [HN.out]; exact hm) HSZ.out)
        have hcase : (decide (fr < 0) = true) ∨ (decide (fr < 0) = false ∧ decide (sz < 4) = true) ∨ (decide (fr < 0) = false ∧ decide (sz < 4) = false ∧ 0 ≤ sz ∧ (sz % 2 != 0) = true) ∨ (decide (fr < 0) = false ∧ decide (sz < 4) = false ∧ 0 ≤ sz ∧ (sz % 2 != 0) = false ∧ decide (64 < sz) = true) ∨ (decide (fr < 0) = false ∧ decide (sz < 4) = false ∧ 0 ≤ sz ∧ (sz % 2 != 0) = false ∧ decide (64 < sz) = false ∧ sz ≤ 64 ∧ decide (64 - sz < fr) = true) := by
          unfold MayJ at hm
          by_cases h0 : fr < 0
          · exact .inl (decide_eq_true h0)
          refine .inr ?_
          by_cases h1 : sz < 4
          · exact .inl ⟨decide_eq_false h0, decide_eq_true h1⟩
          refine .inr ?_
          by_cases h2 : sz % 2 = 0
          case neg => exact .inl ⟨decide_eq_false h0, decide_eq_false h1, by omega, by simpa using h2⟩
          refine .inr ?_
          by_cases h3 : 64 < sz
          · exact .inl ⟨decide_eq_false h0, decide_eq_false h1, by omega, by simpa using h2, decide_eq_true h3⟩
          exact .inr ⟨decide_eq_false h0, decide_eq_false h1, by omega, by simpa using h2, decide_eq_false h3, by omega, decide_eq_true (by omega)⟩
        clear hm
        go_wp2_with fail
        refine HOB.out.mono ?_
        rintro e w4 ⟨⟨v4, rfl, hv4⟩, hq4⟩
        have HFB4 := Lib.hid (HFB.out w4 hq4)
        have HV4 := Lib.hid hv4
        have HQ4 := Lib.hid (HQ3.out.trans hq4)
        clear HOB HFB hv4 hq4
        rcases hcase with g1 | ⟨g1, g2⟩ | ⟨g1, g2, g3, g4⟩ | ⟨g1, g2, g3, g4, g5⟩ | ⟨g1, g2, g3, g4, g5, g6, g7⟩
        all_goals
          go_wp2_with fail
          refine HFB4.out.mono ?_
          rintro e w5 ⟨⟨v5, rfl, hv5⟩, hq5⟩
          have HV5 := Lib.hid hv5
          have HV45 := Lib.hid (HV4.out.q hq5)
          have HQ5 := Lib.hid (HQ4.out.trans hq5)
          clear hv5 hq5
          go_wp2_with fail
          refine (is_some v4 1 w5 HV45.out (.inl rfl)).mono ?_
          rintro e wx ⟨rfl, rfl⟩
          go_wp2_with fail
          refine (is_some v5 1 w5 HV5.out (.inl rfl)).mono ?_
          rintro e wx ⟨rfl, rfl⟩
          go_wp2_with fail
          go_ret
          exact ⟨rfl, HQ1.out.trans HQ5.out⟩
      obtain ⟨m1, m2, m3, m4, m5⟩ := hm
      obtain ⟨f, rfl⟩ : ∃ f : Nat, fr = (f : Int) := ⟨fr.toNat, by omega⟩
      obtain ⟨half, hhalf⟩ : ∃ half : Nat, sz = ((2 * half : Nat) : Int) := ⟨(sz / 2).toNat, by omega⟩
      obtain ⟨S, hS⟩ : ∃ S, S = 2 * half := ⟨_, rfl⟩
      rw [← hS] at hhalf
      subst hhalf
      have HSS := Lib.hid hS
      have hh2 : 2 ≤ half ∧ half ≤ 4096 := by omega
      have hfs : f + 2 * half ≤ 64 := by omega
      have HH2 := Lib.hid hh2
      have HFS := Lib.hid hfs
      have g1 : decide ((f : Int) < 0) = false := decide_eq_false (by omega)
      have g2 : decide ((S : Int) < 4) = false := decide_eq_false (by omega)
      have g4 : ((S : Int) % 2 != 0) = false := by simp; omega
      have g5 : decide (64 < (S : Int)) = false := decide_eq_false (by omega)
      have g7 : decide (64 - (S : Int) < (f : Int)) = false := decide_eq_false (by omega)
      have b1 : (S : Int) ≤ 64 := m4
      have b2 : (f : Int) ≤ 64 := by omega
      have hXl0 : d.has.length = 4096 := by have := HLV.out.ok.len; rw [HN.out] at this; omega
      obtain ⟨X, hX⟩ : ∃ X, sub d.has (64 * f) (64 * (f + S)) = X := ⟨_, rfl⟩
      have hXl : X.length = 64 * (2 * half) := by rw [← hX, length_sub]; omega
      have hop : openF f half d = foundOf (sub X 0 (64 * half)) (sub X (64 * half) X.length) half := open_bytes HWT.out f half (by rw [HN.out]; exact hfs) HLV.out.ok X (by rw [← hX, hS])
      have HRR := Lib.hid (fun w => RRead_any X half w hXl hh2)
      rw [← hop] at HRR
      have t1 : (64 * (f : Int)).toNat = 64 * f := by omega
      have t2 : (64 * ((f : Int) + (S : Int))).toNat = 64 * (f + S) := by omega
      have b3 : 64 * ((f : Int) + (S : Int)) ≤ (d.has.length : Int) := by rw [hXl0]; omega
      have HX := Lib.hid hX
      have hhl : (d.has.length : Int) ≤ 4096 := by rw [hXl0]; exact Int.le_refl _
      have HOK := found_bd (f := f) (half := half) HLV.out.ok (by rw [HN.out]; exact hfs) hh2.1
      have HOP0 := fun he => Open_blank f half HD3.out hh2.1 (by rw [HN.out]; exact hfs) HQ3.out.size (by rw [HWT.out]; exact Nat.zero_le _) ⟨HLV.out.gone, HLV.out.dead⟩ he
      have HOP1 := fun he => Open_ok f half HD3.out hh2.1 (by rw [HN.out]; exact hfs) HQ3.out.size (by rw [HWT.out]; exact Nat.zero_le _) ⟨HLV.out.gone, HLV.out.dead⟩ he
      obtain ⟨F, hF⟩ : ∃ F, openF f half d = F := ⟨_, rfl⟩
      rw [hF] at HRR HOK HOP0 HOP1
      rw [← hS] at HOP0 HOP1
      have HIM := Lib.hid (fun w' (h : Q w3 w') => Image_any (HD3.out.q h) HLV.out.dead)
      clear m1 m2 m3 m4 m5 hS hh2 hfs hXl0 hX hXl hop hF HSZ HFR HWT HN
      by_cases he : F.epoch = 0
      · have HO := Lib.hid (HOP0 he)
        have HE := Lib.hid he
        clear HOP0 HOP1 HOK he
        go_wp2_with fail
        refine HO.out.mono ?_
        rintro e w4 ⟨⟨v4, rfl, hv4⟩, hq4⟩
        have HV4 := Lib.hid hv4
        have HIM4 := Lib.hid (HIM.out w4 hq4)
        have HQ4 := Lib.hid (HQ3.out.trans hq4)
        clear hv4 hq4 HO HIM
        go_wp2_with fail
        refine HIM4.out.mono ?_
        rintro e wx ⟨rfl, rfl⟩
        go_wp2_with fail
        rw [HX.out]
        refine (HRR.out w4).mono ?_
        rintro e w5 ⟨hrd, hq5⟩
        have hrd2 : e = .returned (.agg (foundC 0 (.slice none 0 0) 0 false)) := by
          rcases hrd with ⟨_, h⟩ | ⟨h, _⟩
          · exact h
          · exact absurd HE.out h
        subst hrd2
        have HV5 := Lib.hid (HV4.out.q hq5)
        have HQ5 := Lib.hid (HQ4.out.trans hq5)
        clear hrd hq5 HIM4 HRR
        go_upto_region 30 with (refine wpList_store_row rfl 44 (.tmp 28) (.tmp 190) (by rfl) w5.heap.size (foundC 0 (.slice none 0 0) 0 false) (by rfl) (by rfl) 44 _ (heap_alloc_new w5 _) (infoF' _ _ _ _) rfl (foundC_one rfl) ?_)
        have hf6 : FndAt (w5.alloc (.cells (foundC 0 (.slice none 0 0) 0 false) 44)) w5.heap.size 0 (.slice none 0 0) 0 false := (MapKept.heap_alloc w5 _).1
        have hf7 := hf6.row 0 (.slice none 0 0) 0 false
        have hq6 : Q w5 (w5.alloc (.cells (foundC 0 (.slice none 0 0) 0 false) 44)) := (Q.refl _).alloc _
        have hq7 : Q w5 ((w5.alloc (.cells (foundC 0 (.slice none 0 0) 0 false) 44)).setRow w5.heap.size (foundC 0 (.slice none 0 0) 0 false)) := Q.setRow hq6 (Nat.le_refl _) _
        obtain ⟨W7, hW7⟩ : ∃ W, (w5.alloc (.cells (foundC 0 (.slice none 0 0) 0 false) 44)).setRow w5.heap.size (foundC 0 (.slice none 0 0) 0 false) = W := ⟨_, rfl⟩
        have hW7b : (w5.alloc (.cells #[.int .i64 0, .slice none 0 0, .int .i64 0, .bool false] 44)).setRow w5.heap.size (foundC 0 (.slice none 0 0) 0 false) = W7 := hW7
        rw [hW7] at hf7 hq7
        rw [hW7b]
        have c0 := hf7.c0
        have HV7 := Lib.hid (HV5.out.q hq7)
        have HQ7 := Lib.hid (HQ5.out.trans hq7)
        clear hf6 hf7 hq6 hq7 hW7 hW7b HV5 HQ5
        go_wp2_with fail
        refine (is_some v4 15 W7 HV7.out (.inr (.inr (.inl rfl)))).mono ?_
        rintro e wx ⟨rfl, rfl⟩
        go_wp2_with fail
        go_ret
        exact ⟨rfl, HQ1.out.trans HQ7.out⟩
      · have HO := Lib.hid (HOP1 he)
        obtain ⟨ok1, ok2, ok3, ok4⟩ := HOK he
        have HE := Lib.hid he
        have HJO := Lib.hid ok1
        have HLR := Lib.hid ok4
        have g0 : ((F.epoch : Int) == 0) = false := by simp; omega
        clear HOP0 HOP1 HOK he ok1 ok2 ok3 ok4
        go_wp2_with fail
        refine HO.out.mono ?_
        rintro e w4 ⟨⟨bj, v4, rfl, hv4, hj4, hbj⟩, hq4⟩
        have HV4 := Lib.hid hv4
        have HJ4 := Lib.hid hj4.j
        have HIM4 := Lib.hid (HIM.out w4 hq4)
        have HQ4 := Lib.hid (HQ3.out.trans hq4)
        clear hv4 hj4 hbj hq4 HO HIM
        go_wp2_with fail
        refine HIM4.out.mono ?_
        rintro e wx ⟨rfl, rfl⟩
        go_wp2_with fail
        rw [HX.out]
        refine (HRR.out w4).mono ?_
        rintro e w5 ⟨hrd, hq5⟩
        have hrd2 : ∃ v, e = .returned (.agg (foundC F.epoch v ((half - F.next : Nat) : Int) F.second)) ∧ OwnS 9 w4 w5 v (F.recs.map strV) := by
          rcases hrd with ⟨h, _⟩ | ⟨_, h⟩
          · exact absurd h HE.out
          · exact h
        obtain ⟨v5, rfl, hv5⟩ := hrd2
        have HV5 := Lib.hid (HV4.out.q hq5)
        have HU5 := Lib.hid hv5
        have HJ5 := Lib.hid (HJ4.out.q hq5)
        have HQ5 := Lib.hid (HQ4.out.trans hq5)
        obtain ⟨A4, c4, rfl, _, _, hs4⟩ := HV5.out.strs
        obtain ⟨A5, c5, rfl, _, _, hs5⟩ := HU5.out.strs
        obtain ⟨L, hL⟩ : ∃ L, half - F.next = L := ⟨_, rfl⟩
        rw [hL]
        have HL := Lib.hid hL
        have HA4 := Lib.hid hs4
        have HA5 := Lib.hid hs5
        have hone : (Value.slice A5 F.recs.length c5).oneCell' = true := rfl
        clear hrd hq5 hv5 hL hs4 hs5 HIM4 HRR HV4 HV5 HU5
        obtain ⟨LR, hLR⟩ : ∃ L, F.recs.length = L := ⟨_, rfl⟩
        rw [hLR] at HA4 HA5 HLR hone ⊢
        have HLL := Lib.hid hLR
        clear hLR
        go_upto_region 30 with (refine wpList_store_row rfl 44 (.tmp 28) (.tmp 190) (by rfl) w5.heap.size (foundC F.epoch (.slice A5 LR c5) (L : Int) F.second) (by rfl) (by rfl) 44 _ (heap_alloc_new w5 _) (infoF' _ _ _ _) rfl (foundC_one hone) ?_)
        have hf6 : FndAt (w5.alloc (.cells (foundC 0 (.slice none 0 0) 0 false) 44)) w5.heap.size 0 (.slice none 0 0) 0 false := (MapKept.heap_alloc w5 _).1
        have hf7 := hf6.row F.epoch (.slice A5 LR c5) (L : Int) F.second
        have hq6 : Q w5 (w5.alloc (.cells (foundC 0 (.slice none 0 0) 0 false) 44)) := (Q.refl _).alloc _
        have hq7 : Q w5 ((w5.alloc (.cells (foundC 0 (.slice none 0 0) 0 false) 44)).setRow w5.heap.size (foundC F.epoch (.slice A5 LR c5) (L : Int) F.second)) := Q.setRow hq6 (Nat.le_refl _) _
        obtain ⟨G, hG⟩ : ∃ G, w5.heap.size = G := ⟨_, rfl⟩
        rw [hG] at hf7 hq7 ⊢
        obtain ⟨W7, hW7⟩ : ∃ W, (w5.alloc (.cells (foundC 0 (.slice none 0 0) 0 false) 44)).setRow G (foundC F.epoch (.slice A5 LR c5) (L : Int) F.second) = W := ⟨_, rfl⟩
        have hW7b : (w5.alloc (.cells #[.int .i64 0, .slice none 0 0, .int .i64 0, .bool false] 44)).setRow G (foundC F.epoch (.slice A5 LR c5) (L : Int) F.second) = W7 := hW7
        rw [hW7] at hf7 hq7
        rw [hW7b]
        have c0 := hf7.c0
        have c1 := hf7.c1
        have HF7 := Lib.hid hf7
        have HJ7 := Lib.hid (HJ5.out.q hq7)
        have HQ7 := Lib.hid (HQ5.out.trans hq7)
        have hsa : StrsAt W7 A4 F.recs.length F.recs := by have := HA4.out.q hq7; rwa [← HLL.out] at this
        have hsb : StrsAt W7 A5 F.recs.length F.recs := by have := HA5.out.q hq7; rwa [← HLL.out] at this
        have hsm := same_any A4 A5 c4 c5 F.recs F.recs W7 hsa hsb (by rw [HLL.out]; have := HLR.out; have := HH2.out; omega) (by rw [HLL.out]; have := HLR.out; have := HH2.out; omega)
        rw [show decide (F.recs = F.recs) = true from decide_eq_true rfl, HLL.out] at hsm
        have HSM := Lib.hid hsm
        clear hf6 hf7 hq6 hq7 hW7 hW7b hG hsa hsb hsm HA4 HA5 HJ4 HJ5 HQ5
        go_wp2_with fail
        refine HSM.out.mono ?_
        rintro e w8 ⟨rfl, hq8⟩
        have HF8 := Lib.hid (HF7.out.q hq8)
        have HJ8 := Lib.hid (HJ7.out.q hq8)
        have HQ8 := Lib.hid (HQ7.out.trans hq8)
        clear hq8 c0 c1 HSM HF7 HJ7 HQ7
        have k0 : ∀ m : QW w8, m.val.cell? ⟨G, 0, none⟩ = some (.int .i64 (F.epoch : Int)) := fun m => m.cell HF8.out.c0
        have k2 : ∀ m : QW w8, m.val.cell? ⟨G, 2, none⟩ = some (.int .i64 (L : Int)) := fun m => m.cell HF8.out.c2
        have HC1 : Hid (∀ m : QW w8, Calls Tryz.prog 18 #[.pointer (some ⟨bj, 0, none⟩)] m.val fun e w' => e = .returned (.int .i64 (L : Int)) ∧ Q m.val w') := Lib.hid (fun m => by rw [← HL.out]; exact Left_any (HJ8.out.q m.le) HJO.out)
        have HC2 : Hid (∀ m : QW w8, Calls Tryz.prog 19 #[.pointer (some ⟨bj, 0, none⟩)] m.val fun e w' => e = .returned (.int .i64 (F.epoch : Int)) ∧ m.val = w') := Lib.hid (fun m => Epoch_any (HJ8.out.q m.le))
        have HC3 : Hid (∀ m : QW w8, Calls Tryz.prog 20 #[.pointer (some ⟨bj, 0, none⟩)] m.val fun e w' => e = .returned (.int .i64 (LR : Int)) ∧ m.val = w') := Lib.hid (fun m => by rw [← HLL.out]; exact Len_any (HJ8.out.q m.le))
        obtain ⟨h1, hh1⟩ : ∃ h1, half - 1 = h1 := ⟨_, rfl⟩
        have HC4 : Hid (∀ m : QW w8, Calls Tryz.prog 21 #[.pointer (some ⟨bj, 0, none⟩)] m.val fun e w' => e = .returned (.int .i64 (h1 : Int)) ∧ m.val = w') := Lib.hid (fun m => by rw [← hh1]; exact Half_any (HJ8.out.q m.le) HJO.out)
        have e5 : (S : Int) / 2 = (h1 : Int) + 1 := by have := HSS.out; have := HH2.out; omega
        have b6 : (h1 : Int) ≤ 4096 := by have := HH2.out; omega
        clear hh1
        go_wp2_with fail
        refine wp_region_q (by kernel_rfl) (by kernel_rfl) ?_
        (repeat (go_big_quiet_step (first | (go_at_call 18; exact calls_q (HC1.out _)) | (go_at_call 19; exact calls_qs (HC2.out _)) | (go_at_call 20; exact calls_qs (HC3.out _)) | (go_at_call 21; exact calls_qs (HC4.out _)))))
        refine wpQuiet_nil ?_
        rintro wa ⟨ma, hma⟩
        have hqa : Q w8 wa := by rw [hma]; exact ma.le
        clear hma ma
        go_wp2_with fail
        go_ret
        exact ⟨rfl, HQ1.out.trans (HQ8.out.trans hqa)⟩
end Go.Proofs.YtjbdjkpbkjkdpaaGreatDoor
/- JournalOpens in the closing's order. -/
set_option linter.unusedVariables false
namespace Go.Proofs.YtjbdjkpbkjkdpaaGreatDoor
open Go Go.RowKit
theorem JournalOpens_any (a0 a1 : Int) (A2 : Option Addr) (len2 cap2 : Nat) (zs2 : List Int) (A3 : Option Addr) (len3 cap3 : Nat) (ls3 : List (List UInt8)) (A4 : Option Addr) (len4 cap4 : Nat) (zs4 : List Int) (A5 : Option Addr) (len5 cap5 : Nat) (zs5 : List Int) (W : World)
    (h0 : -9223372036854775808 ≤ a0 ∧ a0 ≤ 9223372036854775807) (h1 : -9223372036854775808 ≤ a1 ∧ a1 ≤ 9223372036854775807) (hz2 : IntsAt W A2 len2 zs2) (hc2 : len2 ≤ 9223372036854775807) (h3 : StrsAt W A3 len3 ls3) (hc : cap3 ≤ 9223372036854775807) (hn : len3 ≤ cap3) (hb : ∀ s ∈ ls3, s.length ≤ 9223372036854775807)
    (hz4 : IntsAt W A4 len4 zs4) (hc4 : len4 ≤ 9223372036854775807) (hz5 : IntsAt W A5 len5 zs5) (hc5 : len5 ≤ 9223372036854775807) :
    Calls Tryz.prog 3 #[.int .i64 a0, .int .i64 a1, .slice A2 len2 cap2, .slice A3 len3 cap3, .slice A4 len4 cap4, .slice A5 len5 cap5] W fun e w' => e = .returned (.bool true) ∧ Q W w' :=
  JournalOpens_walk a0 a1 A2 A3 A4 A5 len2 cap2 len3 cap3 len4 cap4 len5 cap5 zs2 zs4 zs5 ls3 W h0 h1 hz2 hc2 h3 (Nat.le_trans hn hc) hb hz4 hc4 hz5 hc5
end Go.Proofs.YtjbdjkpbkjkdpaaGreatDoor
