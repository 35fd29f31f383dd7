/- Texts of this proof, laid into one: JnQ, JpA, JpB, JpC. -/
import Derived.Test.YtjbdjkpbkjkdpaaDoorMg07
/- The law's known(). -/
set_option linter.unusedVariables false
set_option linter.unusedSimpArgs false
namespace Go.Proofs.YtjbdjkpbkjkdpaaDoor
open Go Go.RowKit
theorem StrS_new (W : World) (ls : List (List UInt8)) (cap : Nat) : StrS (W.alloc (.cells (ls.map strV).toArray 9)) (.slice (some ⟨W.heap.size, 0, none⟩) ls.length cap) ls := by
  have hh : (W.alloc (.cells (ls.map strV).toArray 9)).heap[W.heap.size]? = some (.cells (ls.map strV).toArray 9 (0, 0)) := (MapKept.heap_alloc W _).1
  refine ⟨_, cap, rfl, StrsAt_new W _ ls, fun ad e => ?_⟩
  injection e with e
  subst e
  exact ⟨elemT_of hh, lt_of_heap hh⟩
theorem rack_live {w w1 : World} {bd bp gh : Nat} (h : DAt w w1 bd bp gh newD) : DAt w w1 bd bp gh newD ∧ Live newD ∧ newD.wait = [] := ⟨h, live_new, rfl⟩
set_option maxRecDepth 100000 in
set_option maxHeartbeats 8000000 in
theorem known_any (w : World) : Calls Tryd.prog 8 #[] w fun e w' => e = .returned (.bool true) ∧ Q w w' := by
  go_enter Tryd.func8, Tryd.ntmps8
  go_wp2_with fail
  refine (rack_any w).mono ?_
  rintro e w1 ⟨⟨bd, bp, gh, rfl, hd⟩, hq1⟩
  have HQ1 := Lib.hid hq1
  have HF : Hid (Calls Tryd.prog 10 #[.pointer (some ⟨bd, 0, none⟩), .int .i64 4, .int .i64 10] w1 _) := Lib.hid (Format_inv 4 5 (rack_live hd) (by decide) (by rw [newD_n]; decide) hq1.size)
  clear hd hq1
  go_wp2_with fail
  refine HF.out.mono ?_
  rintro e w2 ⟨bj, d2, rfl, hj, _, hb, hk⟩
  have HJ2 := Lib.hid hj
  have HQ2 := Lib.hid (hk.toQ HQ1.out (by simp))
  have HB : Hid (w.heap.size ≤ bj) := Lib.hid (Nat.le_trans HQ1.out.size hb)
  clear hj hk HF HQ1 hb
  go_wp2_with fail
  refine (Left_inv HJ2.out).mono ?_
  rintro e w3 ⟨rfl, hq⟩
  have HJ3 := Lib.hid (HJ2.out.q hq)
  have HQ3 := Lib.hid (HQ2.out.trans hq)
  clear hq HJ2 HQ2
  rw [show ((5 - (1 + wantS []) : Nat) : Int) = 4 from rfl]
  go_wp2_with fail
  refine (Half_inv HJ3.out).mono ?_
  rintro e w4 ⟨rfl, rfl⟩
  rw [show ((5 - 1 : Nat) : Int) = 4 from rfl]
  go_wp2_with fail
  refine (Epoch_inv HJ3.out).mono ?_
  rintro e w4 ⟨rfl, rfl⟩
  rw [show ((1 : Nat) : Int) = 1 from rfl]
  go_wp2_with fail
  refine (Len_inv HJ3.out).mono ?_
  rintro e w4 ⟨rfl, rfl⟩
  rw [show ((([] : List (List UInt8)).length : Nat) : Int) = 0 from rfl]
  have h40 : (zL 40).length ≤ 60000 := by rw [length_zL]; decide
  have h41 : (zL 41).length ≤ 60000 := by rw [length_zL]; decide
  have n40 : wantN (zL 40) = 1 := by unfold wantN; rw [length_zL]
  have n41 : wantN (zL 41) = 2 := by unfold wantN; rw [length_zL]
  have N40 := Lib.hid n40
  have N41 := Lib.hid n41
  have L40 := Lib.hid h40
  have L41 := Lib.hid h41
  clear n40 n41 h40 h41
  go_wp2_with fail
  refine (text_any 40 w3 (by decide)).mono ?_
  rintro e w5 ⟨rfl, hq⟩
  have HJ5 := Lib.hid (HJ3.out.q hq)
  have HQ5 := Lib.hid (HQ3.out.trans hq)
  clear hq HJ3 HQ3
  go_wp2_with fail
  refine (Append_inv (zL 40) HJ5.out L40.out (by rw [N40.out]; decide) HQ5.out.size).mono ?_
  rintro e w6 ⟨d6, rfl, hj, _, hk⟩
  have HJ6 := Lib.hid hj
  have HQ6 : Hid (Q w w6) := Lib.hid (hk.toQ HQ5.out (by simpa using HB.out))
  clear hj hk HJ5 HQ5
  go_wp2_with fail
  refine (text_any 41 w6 (by decide)).mono ?_
  rintro e w7 ⟨rfl, hq⟩
  have HJ7 := Lib.hid (HJ6.out.q hq)
  have HQ7 := Lib.hid (HQ6.out.trans hq)
  clear hq HJ6 HQ6
  go_wp2_with fail
  refine (Append_inv (zL 41) HJ7.out L41.out (by rw [wantS_snoc, N41.out, N40.out]; decide) HQ7.out.size).mono ?_
  rintro e w8 ⟨d8, rfl, hj, _, hk⟩
  have HJ8 := Lib.hid hj
  have HQ8 : Hid (Q w w8) := Lib.hid (hk.toQ HQ7.out (by simpa using HB.out))
  clear hj hk HJ7 HQ7
  go_wp2_with fail
  refine (text_any 41 w8 (by decide)).mono ?_
  rintro e w9 ⟨rfl, hq⟩
  have HJ9 := Lib.hid (HJ8.out.q hq)
  have HQ9 := Lib.hid (HQ8.out.trans hq)
  clear hq HJ8 HQ8
  go_wp2_with fail
  refine (Append_full (zL 41) HJ9.out L41.out (by rw [wantS_snoc, wantS_snoc, N41.out, N40.out]; decide) HQ9.out.size).mono ?_
  rintro e w10 ⟨⟨v, rfl, hv⟩, hj, hk⟩
  have HJ10 := Lib.hid hj
  have HQ10 : Hid (Q w w10) := Lib.hid (hk.toQ HQ9.out (by simpa using HB.out))
  have HV := Lib.hid hv
  clear hj hk HJ9 HQ9 hv
  go_wp2_with fail
  refine (is_full v w10 HV.out).mono ?_
  rintro e w11 ⟨rfl, rfl⟩
  have HO : Hid (Calls Tryd.prog 13 #[.pointer (some ⟨bd, 0, none⟩), .int .i64 4, .int .i64 10] w10 _) := Lib.hid (Open_inv (f := 4) (half := 5) HJ10.out HQ10.out.size)
  go_wp2_with fail
  refine HO.out.mono ?_
  rintro e w12 ⟨bk, v12, rfl, hs, _, hj, _, hq⟩
  have HS12 := Lib.hid hs
  have HJ12 := Lib.hid hj
  have HQ12 := Lib.hid (HQ10.out.trans hq)
  clear hs hj hq HO HJ10 HQ10 HV
  have hq13 : Q w12 (w12.alloc (.cells ([[120]].map strV).toArray 9)) := (Q.refl _).alloc _
  have HS13 : Hid (StrS (w12.alloc (.cells #[.string ⟨#[120]⟩] 9)) (.slice (some ⟨w12.heap.size, 0, none⟩) 1 1) [[120]]) := Lib.hid (StrS_new w12 [[120]] 1)
  have HJ13 : Hid (JR w (w12.alloc (.cells #[.string ⟨#[120]⟩] 9)) bj bd bp gh 4 5 1 d8 _) := Lib.hid (HJ12.out.q hq13)
  have HQ13 : Hid (Q w (w12.alloc (.cells #[.string ⟨#[120]⟩] 9))) := Lib.hid (HQ12.out.trans hq13)
  have HT13 : Hid (StrS (w12.alloc (.cells #[.string ⟨#[120]⟩] 9)) v12 _) := Lib.hid (HS12.out.q hq13)
  have hpx : wantS [[120]] + 1 ≤ 5 := by decide
  clear hq13 HJ12 HQ12 HS12
  go_wp2_with fail
  generalize w12.alloc (.cells #[.string ⟨#[120]⟩] 9) = W13 at HS13 HJ13 HQ13 HT13 ⊢
  refine (Reset_inv _ [[120]] HJ13.out HS13.out (by simp) hpx (by decide) HQ13.out.size).mono ?_
  rintro e w14 ⟨d14, rfl, hj, _, hk⟩
  have HJ14 := Lib.hid hj
  have HQ14 : Hid (Q w w14) := Lib.hid (hk.toQ HQ13.out (by simpa using HB.out))
  have HT14 := Lib.hid (HT13.out.kr hk HJ13.out)
  clear hj hk HJ13 HQ13 HS13 HT13 hpx
  have HO : Hid (Calls Tryd.prog 13 #[.pointer (some ⟨bd, 0, none⟩), .int .i64 4, .int .i64 10] w14 _) := Lib.hid (Open_inv (f := 4) (half := 5) HJ14.out HQ14.out.size)
  go_wp2_with fail
  refine HO.out.mono ?_
  rintro e w15 ⟨bk2, v15, rfl, hs, _, hj, _, hq⟩
  have HJ15 := Lib.hid hj
  have HQ15 := Lib.hid (HQ14.out.trans hq)
  obtain ⟨A1, c1, rfl, hst1, _⟩ := HT14.out.q hq
  obtain ⟨A2, c2, rfl, hst2, _⟩ := hs
  clear hj hq HO HJ14 HQ14 HT14
  obtain ⟨ad1, rfl, hc1⟩ := hst1.at (i := 1) (by decide)
  obtain ⟨ad2, rfl, hc2⟩ := hst2.at (i := 0) (by decide)
  clear hst1 hst2
  obtain ⟨z, hz⟩ : ∃ z, zL 41 = z := ⟨_, rfl⟩
  have hzl : z.length = 41 := by rw [← hz, length_zL]
  have e1 : gL ([] ++ [zL 40] ++ [zL 41]) 1 = z := hz
  have e2 : gL ([[120]] : List (List UInt8)) 0 = [120] := rfl
  have e3 : ([] ++ [zL 40] ++ [zL 41] : List (List UInt8)).length = 2 := rfl
  have e4 : ([[120]] : List (List UInt8)).length = 1 := rfl
  rw [e1] at hc1
  rw [e2] at hc2
  rw [e3, e4]
  clear e1 e2 e3 e4 hz
  have hc1 : w15.cell? ⟨ad1.block, ad1.off + 1, none⟩ = some (.string ⟨z.toArray⟩) := by simpa [Addr.add] using hc1
  have hc2 : w15.cell? ad2 = some (.string ⟨#[120]⟩) := by simpa [Addr.add] using hc2
  have hzi : (z.length : Int) = 41 := by omega
  have g41 : ((z.length : Int) == 41) = true := by simp; omega
  clear hzl hzi
  go_wp2_with fail
  refine (Epoch_inv HJ15.out).mono ?_
  rintro e w16 ⟨rfl, rfl⟩
  rw [show ((1 + 1 : Nat) : Int) = 2 from rfl]
  go_wp2_with fail
  refine (Left_inv HJ15.out).mono ?_
  rintro e w17 ⟨rfl, hq⟩
  have HJ17 := Lib.hid (HJ15.out.q hq)
  have HQ17 := Lib.hid (HQ15.out.trans hq)
  have hc3 : w17.cell? ad2 = some (.string ⟨#[120]⟩) := hq.cell hc2
  clear hc1 hc2 hq HJ15 HQ15
  rw [show ((5 - (1 + wantS [[120]]) : Nat) : Int) = 3 from rfl]
  go_wp2_with fail
  refine (Len_inv HJ17.out).mono ?_
  rintro e w18 ⟨rfl, rfl⟩
  rw [show (([[120]] : List (List UInt8)).length : Int) = 1 from rfl]
  go_wp2_with fail
  go_ret
  exact ⟨rfl, HQ17.out⟩
end Go.Proofs.YtjbdjkpbkjkdpaaDoor
/- JournalAnew, walked. -/
set_option linter.unusedVariables false
set_option linter.unusedSimpArgs false
namespace Go.Proofs.YtjbdjkpbkjkdpaaDoor
open Go Go.RowKit
theorem textsL_len (ls : List (List UInt8)) (many long : Nat) : (textsL ls many long).length ≤ many := by unfold textsL; simp; omega
theorem textsL_mem (ls : List (List UInt8)) (many long : Nat) : ∀ p ∈ textsL ls many long, p.length ≤ long := by
  intro p hp
  unfold textsL at hp
  obtain ⟨q, _, rfl⟩ := List.mem_map.1 hp
  rw [List.length_take]; omega
theorem wantS_le (m : Nat) (ls : List (List UInt8)) (h : ∀ p ∈ ls, wantN p ≤ m) : wantS ls ≤ m * ls.length := by
  induction ls with
  | nil => exact Nat.le_refl _
  | cons p r ih =>
    have h1 := ih fun q hq => h q (List.mem_cons_of_mem _ hq)
    have h2 := h p List.mem_cons_self
    rw [wantS_cons, List.length_cons, Nat.mul_add, Nat.mul_one]
    omega
theorem wantN_le {p : List UInt8} (h : p.length ≤ 100) : wantN p ≤ 2 := by unfold wantN; omega
set_option maxRecDepth 100000 in
set_option maxHeartbeats 8000000 in
theorem JournalAnew_walk (A : Option Addr) (ca : Nat) (ls : List (List UInt8)) (times : Int) (w : World) (hA : StrsAt w A ls.length ls) (hb : ls.length ≤ 9223372036854775807) (hs : ∀ s ∈ ls, s.length ≤ 9223372036854775807) (ht : -9223372036854775808 ≤ times ∧ times ≤ 9223372036854775807) :
    Calls Tryd.prog 4 #[.slice A ls.length ca, .int .i64 times] w fun e w' => e = .returned (.bool true) ∧ Q w w' := by
  have HT := Lib.hid (textsL_mem ls 6 100)
  have hlen := textsL_len ls 6 100
  have hws : wantS (textsL ls 6 100) ≤ 12 := by
    have := wantS_le 2 (textsL ls 6 100) fun p hp => wantN_le (textsL_mem ls 6 100 p hp)
    omega
  have HW := Lib.hid hws
  have HA := Lib.hid hA
  have HS := Lib.hid hs
  have HB := Lib.hid hb
  have hpk := pickZ_lt times 6 (by decide)
  have HPK := Lib.hid (fun w => pick_any times 6 w (by decide) ht)
  obtain ⟨N, hN⟩ : ∃ N, ls.length = N := ⟨_, rfl⟩
  have HN := Lib.hid hN
  obtain ⟨tl, htl⟩ : ∃ tl, textsL ls 6 100 = tl := ⟨_, rfl⟩
  obtain ⟨T, hT⟩ : ∃ T, pickZ times 6 = T := ⟨_, rfl⟩
  rw [htl] at HT HW
  rw [hT] at hpk HPK
  have HTL := Lib.hid htl
  have HPP := Lib.hid hpk
  have HTX : Hid (∀ w', Q w w' → Calls Tryd.prog 11 #[.slice A N ca, .int .i64 6, .int .i64 100] w' _) := Lib.hid fun w' hq => by
    have := texts_any A ca ls 6 100 w' (HA.out.q hq) HB.out HS.out (by decide) (by decide)
    rw [HN.out] at this
    exact this
  rw [hN]
  clear hlen hws hA hs hN htl hT ht hb hpk
  go_enter Tryd.func4, Tryd.ntmps4
  go_wp2_with fail
  refine (known_any w).mono ?_
  rintro e w1 ⟨rfl, hq1⟩
  have HQ1 := Lib.hid hq1
  clear hq1
  go_wp2_with fail
  refine (rack_any w1).mono ?_
  rintro e w2 ⟨⟨bd, bp, gh, rfl, hd⟩, hq2⟩
  have HQ2 := Lib.hid hq2
  have HF : Hid (Calls Tryd.prog 10 #[.pointer (some ⟨bd, 0, none⟩), .int .i64 8, .int .i64 40] w2 _) := Lib.hid (Format_inv 8 20 (rack_live hd) (by decide) (by rw [newD_n]; decide) hq2.size)
  clear hd hq2
  go_wp2_with fail
  refine HF.out.mono ?_
  rintro e w3 ⟨bj, d3, rfl, hj, _, hbj, hk⟩
  have HJ3 := Lib.hid hj
  have HQ3 := Lib.hid (hk.toQ HQ2.out (by simp))
  have HBJ : Hid (w1.heap.size ≤ bj) := Lib.hid (Nat.le_trans HQ2.out.size hbj)
  clear hj hk HF HQ2 hbj
  go_wp2_with fail
  refine (HTX.out w3 (HQ1.out.trans HQ3.out)).mono ?_
  rintro e w4 ⟨⟨v, rfl, hv⟩, hq4⟩
  rw [HTL.out] at hv
  have HV4 := Lib.hid hv.toS
  have HJ4 := Lib.hid (HJ3.out.q hq4)
  have HQ4 := Lib.hid (HQ3.out.trans hq4)
  clear hv hq4 HJ3 HQ3 HTX
  go_wp2_with fail
  go_loopw [10] (fun iv wr => ∃ (i : Nat) (d : DskS) (recs : List (List UInt8)), (i : Int) ≤ 6 ∧ iv = .int .i64 (i : Int) ∧ Hid (JR w1 wr bj bd bp gh 8 20 (1 + i) d recs) ∧ Hid (StrS wr v tl) ∧ Hid (Q w1 wr)) (fun iv _ => 6 - (intOf iv).toNat)
  case atStart => exact ⟨0, d3, [], by omega, rfl, HJ4.out, HV4.out, HQ4.out⟩
  case round =>
    clear HJ4 HV4 HQ4
    obtain ⟨i, d, recs, hi, rfl, HJ, HV, HQ⟩ := hrel
    go_wp2_with fail
    refine (HPK.out _).mono ?_
    rintro e wx ⟨rfl, rfl⟩
    by_cases hlt : (i : Int) < T
    · have g1 : decide ((i : Int) < T) = true := decide_eq_true hlt
      have hi6 : (i : Int) + 1 ≤ 6 := by have := HPP.out; omega
      have HI6 := Lib.hid hi6
      clear hlt hi6
      go_wp2_with fail
      refine (Reset_inv v tl HJ.out HV.out (fun p hp => by have := HT.out p hp; omega) (by have := HW.out; omega) (by omega) HQ.out.size).mono ?_
      rintro e w5 ⟨d5, rfl, hj5, _, hk5⟩
      have HV5 := Lib.hid (HV.out.kr hk5 HJ.out)
      have HJ5 := Lib.hid hj5
      have HQ5 : Hid (Q w1 w5) := Lib.hid (hk5.toQ HQ.out (by simpa using HBJ.out))
      have HAP : Hid (Calls Tryd.prog 12 #[.pointer (some ⟨bj, 0, none⟩), .string ⟨#[120]⟩] w5 _) := Lib.hid (Append_inv [120] hj5 (by decide) (by rw [show wantN [120] = 1 from rfl]; have := HW.out; omega) HQ5.out.size)
      clear hj5 hk5 HJ HV HQ
      go_wp2_with fail
      refine HAP.out.mono ?_
      rintro e w6 ⟨d6, rfl, hj6, _, hk6⟩
      have HV6 := Lib.hid (HV5.out.kr hk6 HJ5.out)
      have HJ6 := Lib.hid hj6
      have HQ6 : Hid (Q w1 w6) := Lib.hid (hk6.toQ HQ5.out (by simpa using HBJ.out))
      clear hj6 hk6 HJ5 HV5 HQ5 HAP
      go_wp2_with fail
      go_roundw
      case rel => exact ⟨i + 1, d6, _, by have := HI6.out; omega, by go_num, HJ6.out, HV6.out, HQ6.out⟩
      case measure => have := HI6.out; simp [intOf]; omega
    · have g1 : decide ((i : Int) < T) = false := decide_eq_false hlt
      clear hlt
      have HF : Hid (Calls Tryd.prog 10 #[.pointer (some ⟨bd, 0, none⟩), .int .i64 8, .int .i64 40] wr _) := Lib.hid (Format_inv 8 20 HJ.out.dat (by decide) (by obtain ⟨j, _, h2, h3, h4, _⟩ := HJ.out; have := h2.fits; rw [h3, h4] at this; exact this) HQ.out.size)
      clear HJ
      go_wp2_with fail
      refine HF.out.mono ?_
      rintro e w5 ⟨bk, d5, rfl, hj, _, hbk, hk⟩
      have HJ5 := Lib.hid hj
      have HQ5 := Lib.hid (hk.toQ HQ.out (by simp))
      have HBK : Hid (w1.heap.size ≤ bk) := Lib.hid (Nat.le_trans HQ.out.size hbk)
      have HO : Hid (Calls Tryd.prog 13 #[.pointer (some ⟨bd, 0, none⟩), .int .i64 8, .int .i64 40] w5 _) := Lib.hid (Open_inv (f := 8) (half := 20) hj HQ5.out.size)
      clear hj hk HF HQ hbk
      go_wp2_with fail
      refine HO.out.mono ?_
      rintro e w6 ⟨bl, v6, rfl, hs, _, hj, _, hq⟩
      have HJ6 := Lib.hid hj
      have HQ6 := Lib.hid (HQ5.out.trans hq)
      obtain ⟨A6, c6, rfl, _⟩ := hs
      rw [show ([] : List (List UInt8)).length = 0 from rfl]
      have HAP : Hid (Calls Tryd.prog 12 #[.pointer (some ⟨bk, 0, none⟩), .string ⟨#[121]⟩] w6 _) := Lib.hid (Append_inv [121] hj (by decide) (by decide) HQ6.out.size)
      clear hj hq HO HJ5 HQ5
      go_wp2_with fail
      refine HAP.out.mono ?_
      rintro e w7 ⟨d7, rfl, hj, _, hk⟩
      have HJ7 := Lib.hid hj
      have HQ7 : Hid (Q w1 w7) := Lib.hid (hk.toQ HQ6.out (by simpa using HBK.out))
      have HO : Hid (Calls Tryd.prog 13 #[.pointer (some ⟨bd, 0, none⟩), .int .i64 8, .int .i64 40] w7 _) := Lib.hid (Open_inv (f := 8) (half := 20) hj HQ7.out.size)
      clear hj hk HAP HJ6 HQ6
      go_wp2_with fail
      refine HO.out.mono ?_
      rintro e w8 ⟨bm, v8, rfl, hs, _, hj, _, hq⟩
      have HJ8 := Lib.hid hj
      have HQ8 := Lib.hid (HQ7.out.trans hq)
      obtain ⟨A8, c8, rfl, hst, _⟩ := hs
      obtain ⟨ad, rfl, hc⟩ := hst.at (i := 0) (by decide)
      have hc : w8.cell? ad = some (.string ⟨#[121]⟩) := by
        rw [show gL ([] ++ [[121]]) 0 = [121] from rfl] at hc
        simpa [Addr.add] using hc
      rw [show ([] ++ [[121]] : List (List UInt8)).length = 1 from rfl]
      clear hj hq hst HO HJ7 HQ7
      go_wp2_with fail
      refine (Epoch_inv HJ8.out).mono ?_
      rintro e w9 ⟨rfl, rfl⟩
      rw [show ((1 : Nat) : Int) = 1 from rfl]
      go_wp2_with fail
      go_ret
      exact ⟨rfl, HQ1.out.trans HQ8.out⟩
end Go.Proofs.YtjbdjkpbkjkdpaaDoor
/- JournalTwo, walked. -/
set_option linter.unusedVariables false
set_option linter.unusedSimpArgs false
namespace Go.Proofs.YtjbdjkpbkjkdpaaDoor
open Go Go.RowKit
theorem take_more {ls : List (List UInt8)} {i : Nat} (h : ls.length ≤ i) : ls.take (i + 1) = ls.take i := by rw [List.take_of_length_le (by omega), List.take_of_length_le h]
theorem take_one {ls : List (List UInt8)} {i : Nat} (h : i < ls.length) : ls.take (i + 1) = ls.take i ++ [gL ls i] := by
  rw [List.take_succ_eq_append_getElem h]; simp [gL, List.getD, h]
theorem gL_mem {ls : List (List UInt8)} {i : Nat} (h : i < ls.length) : gL ls i ∈ ls := by simp [gL, List.getD, h]
set_option maxRecDepth 100000 in
set_option maxHeartbeats 16000000 in
theorem JournalTwo_walk (A B : Option Addr) (ca cb : Nat) (la lb : List (List UInt8)) (w : World) (hA : StrsAt w A la.length la) (hba : la.length ≤ 9223372036854775807) (hsa : ∀ s ∈ la, s.length ≤ 9223372036854775807)
    (hB : StrsAt w B lb.length lb) (hbb : lb.length ≤ 9223372036854775807) (hsb : ∀ s ∈ lb, s.length ≤ 9223372036854775807) :
    Calls Tryd.prog 3 #[.slice A la.length ca, .slice B lb.length cb] w fun e w' => e = .returned (.bool true) ∧ Q w w' := by
  have HTa := Lib.hid (textsL_mem la 7 100)
  have hla := textsL_len la 7 100
  have hwa : ∀ i, wantS ((textsL la 7 100).take i) ≤ 14 := fun i => by
    have := wantS_le 2 ((textsL la 7 100).take i) fun p hp => wantN_le (textsL_mem la 7 100 p (List.mem_of_mem_take hp))
    rw [List.length_take] at this
    omega
  have HWa := Lib.hid hwa
  have HXa := Lib.hid (fun w' (hq : Q w w') => texts_any A ca la 7 100 w' (hA.q hq) hba hsa (by decide) (by decide))
  obtain ⟨ta, hta⟩ : ∃ t, textsL la 7 100 = t := ⟨_, rfl⟩
  rw [hta] at HTa HWa HXa hla
  obtain ⟨Na, hNa⟩ : ∃ N, la.length = N := ⟨_, rfl⟩
  rw [hNa] at HXa ⊢
  clear hA hba hsa hta hNa hwa
  have HTb := Lib.hid (textsL_mem lb 7 100)
  have hlb := textsL_len lb 7 100
  have hwb : ∀ i, wantS ((textsL lb 7 100).take i) ≤ 14 := fun i => by
    have := wantS_le 2 ((textsL lb 7 100).take i) fun p hp => wantN_le (textsL_mem lb 7 100 p (List.mem_of_mem_take hp))
    rw [List.length_take] at this
    omega
  have HWb := Lib.hid hwb
  have HXb := Lib.hid (fun w' (hq : Q w w') => texts_any B cb lb 7 100 w' (hB.q hq) hbb hsb (by decide) (by decide))
  obtain ⟨tb, htb⟩ : ∃ t, textsL lb 7 100 = t := ⟨_, rfl⟩
  rw [htb] at HTb HWb HXb hlb
  obtain ⟨Nb, hNb⟩ : ∃ N, lb.length = N := ⟨_, rfl⟩
  rw [hNb] at HXb ⊢
  clear hB hbb hsb htb hNb hwb
  go_enter Tryd.func3, Tryd.ntmps3
  go_wp2_with fail
  refine (known_any w).mono ?_
  rintro e w1 ⟨rfl, hq1⟩
  have HQ1 := Lib.hid hq1
  clear hq1
  go_wp2_with fail
  refine (rack_any w1).mono ?_
  rintro e w2 ⟨⟨bd, bp, gh, rfl, hd⟩, hq2⟩
  have HQ2 := Lib.hid hq2
  have HF : Hid (Calls Tryd.prog 10 #[.pointer (some ⟨bd, 0, none⟩), .int .i64 0, .int .i64 32] w2 _) := Lib.hid (Format_inv 0 16 (rack_live hd) (by decide) (by rw [newD_n]; decide) hq2.size)
  clear hd hq2
  go_wp2_with fail
  refine HF.out.mono ?_
  rintro e w3 ⟨bx, d3, rfl, hj, ho3, hbx, hk⟩
  have HX3 := Lib.hid hj
  have HQ3 := Lib.hid (hk.toQ HQ2.out (by simp))
  have HBX : Hid (w1.heap.size ≤ bx) := Lib.hid (Nat.le_trans HQ2.out.size hbx)
  have hn3 : 64 = d3.n := by rw [ho3.n, newD_n]
  have HF : Hid (Calls Tryd.prog 10 #[.pointer (some ⟨bd, 0, none⟩), .int .i64 32, .int .i64 32] w3 _) := Lib.hid (Format_inv 32 16 hj.dat (by decide) (by rw [← hn3]; decide) HQ3.out.size)
  have hlt := hj.lt
  clear hj hk HQ2 hbx ho3 hn3
  go_wp2_with fail
  refine HF.out.mono ?_
  rintro e w4 ⟨bY, d4, rfl, hj, ho4, hbY, hk⟩
  have HNE : Hid (bx ≠ bY) := Lib.hid (by omega)
  have HX4 := Lib.hid (HX3.out.other (hk.mono (S' := [bY]) (by simp)) HNE.out hj.dat ho4 (by omega))
  have HY4 := Lib.hid hj
  have HQ4 := Lib.hid (hk.toQ HQ3.out (by simp))
  have HBY : Hid (w1.heap.size ≤ bY) := Lib.hid (Nat.le_trans HQ3.out.size hbY)
  clear hj hk HF HX3 HQ3 hbY ho4 hlt
  go_wp2_with fail
  refine (HXa.out w4 (HQ1.out.trans HQ4.out)).mono ?_
  rintro e w5 ⟨⟨va, rfl, hv⟩, hq5⟩
  have HV5 := Lib.hid hv.toS
  have HX5 := Lib.hid (HX4.out.q hq5)
  have HY5 := Lib.hid (HY4.out.q hq5)
  have HQ5 := Lib.hid (HQ4.out.trans hq5)
  clear hv hq5 HX4 HY4 HQ4 HXa
  go_wp2_with fail
  refine (HXb.out w5 (HQ1.out.trans HQ5.out)).mono ?_
  rintro e w6 ⟨⟨vb, rfl, hv⟩, hq6⟩
  have HU6 := Lib.hid hv.toS
  have HV6 := Lib.hid (HV5.out.q hq6)
  have HX6 := Lib.hid (HX5.out.q hq6)
  have HY6 := Lib.hid (HY5.out.q hq6)
  have HQ6 := Lib.hid (HQ5.out.trans hq6)
  obtain ⟨A1, c1, rfl, _⟩ := HV6.out
  obtain ⟨B1, c2, rfl, _⟩ := HU6.out
  obtain ⟨LA, hLA⟩ : ∃ L, ta.length = L := ⟨_, rfl⟩
  obtain ⟨LB, hLB⟩ : ∃ L, tb.length = L := ⟨_, rfl⟩
  rw [hLA] at HV6 hla ⊢
  rw [hLB] at HU6 hlb ⊢
  have HLA := Lib.hid hLA
  have HLB := Lib.hid hLB
  have hlai : (LA : Int) ≤ 7 := by omega
  have hlbi : (LB : Int) ≤ 7 := by omega
  clear hv hq6 HV5 HX5 HY5 HQ5 HXb hLA hLB
  go_wp2_with fail
  go_loopw [12] (fun iv wr => ∃ (i : Nat) (d : DskS), (i : Int) ≤ 7 ∧ iv = .int .i64 (i : Int) ∧ Hid (JR w1 wr bx bd bp gh 0 16 1 d (ta.take i)) ∧ Hid (JR w1 wr bY bd bp gh 32 16 1 d (tb.take i)) ∧ Hid (StrS wr (.slice A1 LA c1) ta) ∧ Hid (StrS wr (.slice B1 LB c2) tb) ∧ Hid (Q w1 wr)) (fun iv _ => 7 - (intOf iv).toNat)
  case atStart => exact ⟨0, d4, by omega, rfl, HX6.out, HY6.out, HV6.out, HU6.out, HQ6.out⟩
  case round =>
    clear HX6 HY6 HV6 HU6 HQ6
    obtain ⟨i, d, hi, rfl, HX, HY, HV, HU, HQ⟩ := hrel
    by_cases hlt : (i : Int) < 7
    · have g1 : decide ((i : Int) < 7) = true := decide_eq_true hlt
      have hi6 : (i : Int) + 1 ≤ 7 := by omega
      have HI6 := Lib.hid hi6
      clear hlt hi6
      by_cases hla2 : i < LA
      · have g2 : decide (i < LA) = true := decide_eq_true hla2
        obtain ⟨A3, c3, e3, hst, _⟩ := HV.out
        have hst2 : StrsAt wr A1 ta.length ta := by injection e3 with e3 _ _; rw [e3]; exact hst
        obtain ⟨ad1, rfl, hca⟩ := hst2.at (i := i) (by rw [HLA.out]; exact hla2)
        have hto := take_one (ls := ta) (i := i) (by rw [HLA.out]; exact hla2)
        have hgl := HTa.out _ (gL_mem (ls := ta) (i := i) (by rw [HLA.out]; exact hla2))
        have hws := HWa.out (i + 1)
        rw [hto, wantS_snoc] at hws
        have HAP := Lib.hid (Append_inv (gL ta i) HX.out (by omega) (by omega) HQ.out.size)
        obtain ⟨sx, hsx⟩ : ∃ s, gL ta i = s := ⟨_, rfl⟩
        rw [hsx] at HAP hca hto
        have HTA := Lib.hid hto
        clear hst hst2 e3 hto hgl hws hsx
        go_wp2_with fail
        refine HAP.out.mono ?_
        rintro e w8 ⟨d8, rfl, hj, ho, hk⟩
        have HY8 := Lib.hid (HY.out.other hk HNE.out.symm hj.dat ho (by omega))
        rw [← HTA.out] at hj
        have HV8 := Lib.hid (HV.out.kr hk HX.out)
        have HU8 := Lib.hid (HU.out.kr hk HX.out)
        have HX8 := Lib.hid hj
        have HQ8 : Hid (Q w1 w8) := Lib.hid (hk.toQ HQ.out (by simpa using HBX.out))
        clear hj ho hk HX HY HV HU HQ HAP hca HTA
        by_cases hlb2 : i < LB
        · have g3 : decide (i < LB) = true := decide_eq_true hlb2
          obtain ⟨A3, c3, e3, hst, _⟩ := HU8.out
          have hst2 : StrsAt w8 B1 tb.length tb := by injection e3 with e3 _ _; rw [e3]; exact hst
          obtain ⟨bd1, rfl, hcb⟩ := hst2.at (i := i) (by rw [HLB.out]; exact hlb2)
          have hto := take_one (ls := tb) (i := i) (by rw [HLB.out]; exact hlb2)
          have hgl := HTb.out _ (gL_mem (ls := tb) (i := i) (by rw [HLB.out]; exact hlb2))
          have hws := HWb.out (i + 1)
          rw [hto, wantS_snoc] at hws
          have HAQ := Lib.hid (Append_inv (gL tb i) HY8.out (by omega) (by omega) HQ8.out.size)
          obtain ⟨sy, hsy⟩ : ∃ s, gL tb i = s := ⟨_, rfl⟩
          rw [hsy] at HAQ hcb hto
          have HTB := Lib.hid hto
          clear hst hst2 e3 hto hgl hws hsy
          go_wp2_with fail
          refine HAQ.out.mono ?_
          rintro e w9 ⟨d9, rfl, hj, ho, hk⟩
          have HX9 := Lib.hid (HX8.out.other hk HNE.out hj.dat ho (by omega))
          rw [← HTB.out] at hj
          have HV9 := Lib.hid (HV8.out.kr hk HY8.out)
          have HU9 := Lib.hid (HU8.out.kr hk HY8.out)
          have HY9 := Lib.hid hj
          have HQ9 : Hid (Q w1 w9) := Lib.hid (hk.toQ HQ8.out (by simpa using HBY.out))
          clear hj ho hk HX8 HY8 HV8 HU8 HQ8 HAQ hcb HTB
          go_wp2_with fail
          go_roundw
          case rel => exact ⟨i + 1, d9, by have := HI6.out; omega, by go_num, HX9.out, HY9.out, HV9.out, HU9.out, HQ9.out⟩
          case measure => have := HI6.out; simp [intOf]; omega
        · have g3 : decide (i < LB) = false := decide_eq_false hlb2
          have hto := take_more (ls := tb) (i := i) (by rw [HLB.out]; omega)
          have HY9 := HY8.out
          rw [← hto] at HY9
          have HY9 := Lib.hid HY9
          clear hto hlb2 HY8
          go_wp2_with fail
          go_roundw
          case rel => exact ⟨i + 1, d8, by have := HI6.out; omega, by go_num, HX8.out, HY9.out, HV8.out, HU8.out, HQ8.out⟩
          case measure => have := HI6.out; simp [intOf]; omega
      · have g2 : decide (i < LA) = false := decide_eq_false hla2
        have hto := take_more (ls := ta) (i := i) (by rw [HLA.out]; omega)
        have HX8 := HX.out
        rw [← hto] at HX8
        have HX8 := Lib.hid HX8
        clear hto hla2 HX
        by_cases hlb2 : i < LB
        · have g3 : decide (i < LB) = true := decide_eq_true hlb2
          obtain ⟨A3, c3, e3, hst, _⟩ := HU.out
          have hst2 : StrsAt wr B1 tb.length tb := by injection e3 with e3 _ _; rw [e3]; exact hst
          obtain ⟨bd1, rfl, hcb⟩ := hst2.at (i := i) (by rw [HLB.out]; exact hlb2)
          have hto := take_one (ls := tb) (i := i) (by rw [HLB.out]; exact hlb2)
          have hgl := HTb.out _ (gL_mem (ls := tb) (i := i) (by rw [HLB.out]; exact hlb2))
          have hws := HWb.out (i + 1)
          rw [hto, wantS_snoc] at hws
          have HAQ := Lib.hid (Append_inv (gL tb i) HY.out (by omega) (by omega) HQ.out.size)
          obtain ⟨sy, hsy⟩ : ∃ s, gL tb i = s := ⟨_, rfl⟩
          rw [hsy] at HAQ hcb hto
          have HTB := Lib.hid hto
          clear hst hst2 e3 hto hgl hws hsy
          go_wp2_with fail
          refine HAQ.out.mono ?_
          rintro e w9 ⟨d9, rfl, hj, ho, hk⟩
          have HX9 := Lib.hid (HX8.out.other hk HNE.out hj.dat ho (by omega))
          rw [← HTB.out] at hj
          have HV9 := Lib.hid (HV.out.kr hk HY.out)
          have HU9 := Lib.hid (HU.out.kr hk HY.out)
          have HY9 := Lib.hid hj
          have HQ9 : Hid (Q w1 w9) := Lib.hid (hk.toQ HQ.out (by simpa using HBY.out))
          clear hj ho hk HX8 HY HV HU HQ HAQ hcb HTB
          go_wp2_with fail
          go_roundw
          case rel => exact ⟨i + 1, d9, by have := HI6.out; omega, by go_num, HX9.out, HY9.out, HV9.out, HU9.out, HQ9.out⟩
          case measure => have := HI6.out; simp [intOf]; omega
        · have g3 : decide (i < LB) = false := decide_eq_false hlb2
          have hto := take_more (ls := tb) (i := i) (by rw [HLB.out]; omega)
          have HY9 := HY.out
          rw [← hto] at HY9
          have HY9 := Lib.hid HY9
          clear hto hlb2 HY
          go_wp2_with fail
          go_roundw
          case rel => exact ⟨i + 1, d, by have := HI6.out; omega, by go_num, HX8.out, HY9.out, HV.out, HU.out, HQ.out⟩
          case measure => have := HI6.out; simp [intOf]; omega
    · have g1 : decide ((i : Int) < 7) = false := decide_eq_false hlt
      have hxl : ta.take i = ta := List.take_of_length_le (by rw [HLA.out]; omega)
      have hyl : tb.take i = tb := List.take_of_length_le (by rw [HLB.out]; omega)
      rw [hxl] at HX
      rw [hyl] at HY
      have HO : Hid (Calls Tryd.prog 13 #[.pointer (some ⟨bd, 0, none⟩), .int .i64 0, .int .i64 32] wr _) := Lib.hid (Open_inv (f := 0) (half := 16) HX.out HQ.out.size)
      clear hxl hyl hlt
      go_wp2_with fail
      refine HO.out.mono ?_
      rintro e w7 ⟨bm, v7, rfl, hs, _, _, _, hq⟩
      have HQ7 := Lib.hid (HQ.out.trans hq)
      have HY7 := Lib.hid (HY.out.q hq)
      have HV7 := Lib.hid (HV.out.q hq)
      have HU7 := Lib.hid (HU.out.q hq)
      have HS7 := Lib.hid hs
      have HO2 : Hid (Calls Tryd.prog 13 #[.pointer (some ⟨bd, 0, none⟩), .int .i64 32, .int .i64 32] w7 _) := Lib.hid (Open_inv (f := 32) (half := 16) HY7.out HQ7.out.size)
      clear hs hq HO HX HY HV HU HQ
      go_wp2_with fail
      refine HO2.out.mono ?_
      rintro e w8 ⟨bn, v8, rfl, hs, _, _, _, hq⟩
      have HQ8 := Lib.hid (HQ7.out.trans hq)
      have HV8 := HV7.out.q hq
      have HU8 := HU7.out.q hq
      obtain ⟨A7, c7, rfl, hs7, _⟩ := HS7.out.q hq
      obtain ⟨A8, c8, rfl, hs8, _⟩ := hs
      obtain ⟨A3, c3, e3, hst, _⟩ := HV8
      have hst3 : StrsAt w8 A1 ta.length ta := by injection e3 with e3 _ _; rw [e3]; exact hst
      obtain ⟨A4, c4, e4, hst4, _⟩ := HU8
      have hst5 : StrsAt w8 B1 tb.length tb := by injection e4 with e4 _ _; rw [e4]; exact hst4
      have HS1 := Lib.hid (same_any A7 A1 c7 c1 ta ta w8 hs7 hst3 (by rw [HLA.out]; omega) (by rw [HLA.out]; omega))
      have HS2 := Lib.hid (fun w' (hq : Q w8 w') => same_any A8 B1 c8 c2 tb tb w' (hs8.q hq) (hst5.q hq) (by rw [HLB.out]; omega) (by rw [HLB.out]; omega))
      rw [HLA.out] at HS1 ⊢
      rw [HLB.out] at HS2 ⊢
      rw [show decide (ta = ta) = true from decide_eq_true rfl] at HS1
      rw [show decide (tb = tb) = true from decide_eq_true rfl] at HS2
      clear hs7 hs8 hst hst3 hst4 hst5 e3 e4 hq HS7 HV7 HU7 HY7 HQ7 HO2
      go_wp2_with fail
      refine HS1.out.mono ?_
      rintro e w9 ⟨rfl, hq9⟩
      have HQ9 := Lib.hid hq9
      clear hq9
      go_wp2_with fail
      refine (HS2.out _ HQ9.out).mono ?_
      rintro e w10 ⟨rfl, hq10⟩
      go_wp2_with fail
      go_ret
      exact ⟨rfl, HQ1.out.trans (HQ8.out.trans (HQ9.out.trans hq10))⟩
end Go.Proofs.YtjbdjkpbkjkdpaaDoor
/- The laws in the closings' order. -/
set_option linter.unusedVariables false
namespace Go.Proofs.YtjbdjkpbkjkdpaaDoor
open Go Go.RowKit
theorem JournalAnew_any (A : Option Addr) (n cap : Nat) (ls : List (List UInt8)) (t : Int) (W : World) (h : StrsAt W A n ls) (hc : cap ≤ 9223372036854775807) (hn : n ≤ cap) (hb : ∀ s ∈ ls, s.length ≤ 9223372036854775807) (ht : -9223372036854775808 ≤ t ∧ t ≤ 9223372036854775807) :
    Calls Tryd.prog 4 #[.slice A n cap, .int .i64 t] W fun e w' => e = .returned (.bool true) ∧ Q W w' := by
  obtain rfl := h.1
  exact JournalAnew_walk A cap ls t W h (Nat.le_trans hn hc) hb ht
theorem JournalTwo_any (A : Option Addr) (n cap : Nat) (ls : List (List UInt8)) (B : Option Addr) (n2 cap2 : Nat) (ls2 : List (List UInt8)) (W : World) (h : StrsAt W A n ls) (hc : cap ≤ 9223372036854775807) (hn : n ≤ cap) (hb : ∀ s ∈ ls, s.length ≤ 9223372036854775807)
    (h2 : StrsAt W B n2 ls2) (hc2 : cap2 ≤ 9223372036854775807) (hn2 : n2 ≤ cap2) (hb2 : ∀ s ∈ ls2, s.length ≤ 9223372036854775807) :
    Calls Tryd.prog 3 #[.slice A n cap, .slice B n2 cap2] W fun e w' => e = .returned (.bool true) ∧ Q W w' := by
  obtain rfl := h.1
  obtain rfl := h2.1
  exact JournalTwo_walk A B cap cap2 ls ls2 W h (Nat.le_trans hn hc) hb h2 (Nat.le_trans hn2 hc2) hb2
end Go.Proofs.YtjbdjkpbkjkdpaaDoor
