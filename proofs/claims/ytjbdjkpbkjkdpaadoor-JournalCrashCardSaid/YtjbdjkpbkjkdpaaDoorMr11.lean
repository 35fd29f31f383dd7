/- Texts of this proof, laid into one: JpB, JqE, JqF, Frk. -/
import Derived.Test.YtjbdjkpbkjkdpaaDoorMr10
/- JournalTwo, walked. -/
set_option linter.unusedVariables false
set_option linter.unusedSimpArgs false
namespace Go.Proofs.YtjbdjkpbkjkdpaaDoor
open Go Go.RowKit
theorem take_more {ls : List (List UInt8)} {i : Nat} (h : ls.length ≤ i) : ls.take (i + 1) = ls.take i := by rw [List.take_of_length_le (by omega), List.take_of_length_le h]
theorem take_one {ls : List (List UInt8)} {i : Nat} (h : i < ls.length) : ls.take (i + 1) = ls.take i ++ [gL ls i] := by
  rw [List.take_succ_eq_append_getElem h]; simp [gL, List.getD, h]
theorem gL_mem {ls : List (List UInt8)} {i : Nat} (h : i < ls.length) : gL ls i ∈ ls := by simp [gL, List.getD, h]
set_option maxRecDepth 100000 in
set_option maxHeartbeats 16000000 in
theorem JournalTwo_walk (A B : Option Addr) (ca cb : Nat) (la lb : List (List UInt8)) (w : World) (hA : StrsAt w A la.length la) (hba : la.length ≤ 9223372036854775807) (hsa : ∀ s ∈ la, s.length ≤ 9223372036854775807)
    (hB : StrsAt w B lb.length lb) (hbb : lb.length ≤ 9223372036854775807) (hsb : ∀ s ∈ lb, s.length ≤ 9223372036854775807) :
    Calls Tryd.prog 3 #[.slice A la.length ca, .slice B lb.length cb] w fun e w' => e = .returned (.bool true) ∧ Q w w' := by
  have HTa := Lib.hid (textsL_mem la 7 100)
  have hla := textsL_len la 7 100
  have hwa : ∀ i, wantS ((textsL la 7 100).take i) ≤ 14 := fun i => by
    have := wantS_le 2 ((textsL la 7 100).take i) fun p hp => wantN_le (textsL_mem la 7 100 p (List.mem_of_mem_take hp))
    rw [List.length_take] at this
    omega
  have HWa := Lib.hid hwa
  have HXa := Lib.hid (fun w' (hq : Q w w') => texts_any A ca la 7 100 w' (hA.q hq) hba hsa (by decide) (by decide))
  obtain ⟨ta, hta⟩ : ∃ t, textsL la 7 100 = t := ⟨_, rfl⟩
  rw [hta] at HTa HWa HXa hla
  obtain ⟨Na, hNa⟩ : ∃ N, la.length = N := ⟨_, rfl⟩
  rw [hNa] at HXa ⊢
  clear hA hba hsa hta hNa hwa
  have HTb := Lib.hid (textsL_mem lb 7 100)
  have hlb := textsL_len lb 7 100
  have hwb : ∀ i, wantS ((textsL lb 7 100).take i) ≤ 14 := fun i => by
    have := wantS_le 2 ((textsL lb 7 100).take i) fun p hp => wantN_le (textsL_mem lb 7 100 p (List.mem_of_mem_take hp))
    rw [List.length_take] at this
    omega
  have HWb := Lib.hid hwb
  have HXb := Lib.hid (fun w' (hq : Q w w') => texts_any B cb lb 7 100 w' (hB.q hq) hbb hsb (by decide) (by decide))
  obtain ⟨tb, htb⟩ : ∃ t, textsL lb 7 100 = t := ⟨_, rfl⟩
  rw [htb] at HTb HWb HXb hlb
  obtain ⟨Nb, hNb⟩ : ∃ N, lb.length = N := ⟨_, rfl⟩
  rw [hNb] at HXb ⊢
  clear hB hbb hsb htb hNb hwb
  go_enter Tryd.func3, Tryd.ntmps3
  go_wp2_with fail
  refine (known_any w).mono ?_
  rintro e w1 ⟨rfl, hq1⟩
  have HQ1 := Lib.hid hq1
  clear hq1
  go_wp2_with fail
  refine (rack_any w1).mono ?_
  rintro e w2 ⟨⟨bd, bp, gh, rfl, hd⟩, hq2⟩
  have HQ2 := Lib.hid hq2
  have HF : Hid (Calls Tryd.prog 10 #[.pointer (some ⟨bd, 0, none⟩), .int .i64 0, .int .i64 32] w2 _) := Lib.hid (Format_inv 0 16 (rack_live hd) (by decide) (by rw [newD_n]; decide) hq2.size)
  clear hd hq2
  go_wp2_with fail
  refine HF.out.mono ?_
  rintro e w3 ⟨bx, d3, rfl, hj, ho3, hbx, hk⟩
  have HX3 := Lib.hid hj
  have HQ3 := Lib.hid (hk.toQ HQ2.out (by simp))
  have HBX : Hid (w1.heap.size ≤ bx) := Lib.hid (Nat.le_trans HQ2.out.size hbx)
  have hn3 : 64 = d3.n := by rw [ho3.n, newD_n]
  have HF : Hid (Calls Tryd.prog 10 #[.pointer (some ⟨bd, 0, none⟩), .int .i64 32, .int .i64 32] w3 _) := Lib.hid (Format_inv 32 16 hj.dat (by decide) (by rw [← hn3]; decide) HQ3.out.size)
  have hlt := hj.lt
  clear hj hk HQ2 hbx ho3 hn3
  go_wp2_with fail
  refine HF.out.mono ?_
  rintro e w4 ⟨bY, d4, rfl, hj, ho4, hbY, hk⟩
  have HNE : Hid (bx ≠ bY) := Lib.hid (by omega)
  have HX4 := Lib.hid (HX3.out.other (hk.mono (S' := [bY]) (by simp)) HNE.out hj.dat ho4 (by omega))
  have HY4 := Lib.hid hj
  have HQ4 := Lib.hid (hk.toQ HQ3.out (by simp))
  have HBY : Hid (w1.heap.size ≤ bY) := Lib.hid (Nat.le_trans HQ3.out.size hbY)
  clear hj hk HF HX3 HQ3 hbY ho4 hlt
  go_wp2_with fail
  refine (HXa.out w4 (HQ1.out.trans HQ4.out)).mono ?_
  rintro e w5 ⟨⟨va, rfl, hv⟩, hq5⟩
  have HV5 := Lib.hid hv.toS
  have HX5 := Lib.hid (HX4.out.q hq5)
  have HY5 := Lib.hid (HY4.out.q hq5)
  have HQ5 := Lib.hid (HQ4.out.trans hq5)
  clear hv hq5 HX4 HY4 HQ4 HXa
  go_wp2_with fail
  refine (HXb.out w5 (HQ1.out.trans HQ5.out)).mono ?_
  rintro e w6 ⟨⟨vb, rfl, hv⟩, hq6⟩
  have HU6 := Lib.hid hv.toS
  have HV6 := Lib.hid (HV5.out.q hq6)
  have HX6 := Lib.hid (HX5.out.q hq6)
  have HY6 := Lib.hid (HY5.out.q hq6)
  have HQ6 := Lib.hid (HQ5.out.trans hq6)
  obtain ⟨A1, c1, rfl, _⟩ := HV6.out
  obtain ⟨B1, c2, rfl, _⟩ := HU6.out
  obtain ⟨LA, hLA⟩ : ∃ L, ta.length = L := ⟨_, rfl⟩
  obtain ⟨LB, hLB⟩ : ∃ L, tb.length = L := ⟨_, rfl⟩
  rw [hLA] at HV6 hla ⊢
  rw [hLB] at HU6 hlb ⊢
  have HLA := Lib.hid hLA
  have HLB := Lib.hid hLB
  have hlai : (LA : Int) ≤ 7 := by omega
  have hlbi : (LB : Int) ≤ 7 := by omega
  clear hv hq6 HV5 HX5 HY5 HQ5 HXb hLA hLB
  go_wp2_with fail
  go_loopw [12] (fun iv wr => ∃ (i : Nat) (d : DskS), (i : Int) ≤ 7 ∧ iv = .int .i64 (i : Int) ∧ Hid (JR w1 wr bx bd bp gh 0 16 1 d (ta.take i)) ∧ Hid (JR w1 wr bY bd bp gh 32 16 1 d (tb.take i)) ∧ Hid (StrS wr (.slice A1 LA c1) ta) ∧ Hid (StrS wr (.slice B1 LB c2) tb) ∧ Hid (Q w1 wr)) (fun iv _ => 7 - (intOf iv).toNat)
  case atStart => exact ⟨0, d4, by omega, rfl, HX6.out, HY6.out, HV6.out, HU6.out, HQ6.out⟩
  case round =>
    clear HX6 HY6 HV6 HU6 HQ6
    obtain ⟨i, d, hi, rfl, HX, HY, HV, HU, HQ⟩ := hrel
    by_cases hlt : (i : Int) < 7
    · have g1 : decide ((i : Int) < 7) = true := decide_eq_true hlt
      have hi6 : (i : Int) + 1 ≤ 7 := by omega
      have HI6 := Lib.hid hi6
      clear hlt hi6
      by_cases hla2 : i < LA
      · have g2 : decide (i < LA) = true := decide_eq_true hla2
        obtain ⟨A3, c3, e3, hst, _⟩ := HV.out
        have hst2 : StrsAt wr A1 ta.length ta := by injection e3 with e3 _ _; rw [e3]; exact hst
        obtain ⟨ad1, rfl, hca⟩ := hst2.at (i := i) (by rw [HLA.out]; exact hla2)
        have hto := take_one (ls := ta) (i := i) (by rw [HLA.out]; exact hla2)
        have hgl := HTa.out _ (gL_mem (ls := ta) (i := i) (by rw [HLA.out]; exact hla2))
        have hws := HWa.out (i + 1)
        rw [hto, wantS_snoc] at hws
        have HAP := Lib.hid (Append_inv (gL ta i) HX.out (by omega) (by omega) HQ.out.size)
        obtain ⟨sx, hsx⟩ : ∃ s, gL ta i = s := ⟨_, rfl⟩
        rw [hsx] at HAP hca hto
        have HTA := Lib.hid hto
        clear hst hst2 e3 hto hgl hws hsx
        go_wp2_with fail
        refine HAP.out.mono ?_
        rintro e w8 ⟨d8, rfl, hj, ho, hk⟩
        have HY8 := Lib.hid (HY.out.other hk HNE.out.symm hj.dat ho (by omega))
        rw [← HTA.out] at hj
        have HV8 := Lib.hid (HV.out.kr hk HX.out)
        have HU8 := Lib.hid (HU.out.kr hk HX.out)
        have HX8 := Lib.hid hj
        have HQ8 : Hid (Q w1 w8) := Lib.hid (hk.toQ HQ.out (by simpa using HBX.out))
        clear hj ho hk HX HY HV HU HQ HAP hca HTA
        by_cases hlb2 : i < LB
        · have g3 : decide (i < LB) = true := decide_eq_true hlb2
          obtain ⟨A3, c3, e3, hst, _⟩ := HU8.out
          have hst2 : StrsAt w8 B1 tb.length tb := by injection e3 with e3 _ _; rw [e3]; exact hst
          obtain ⟨bd1, rfl, hcb⟩ := hst2.at (i := i) (by rw [HLB.out]; exact hlb2)
          have hto := take_one (ls := tb) (i := i) (by rw [HLB.out]; exact hlb2)
          have hgl := HTb.out _ (gL_mem (ls := tb) (i := i) (by rw [HLB.out]; exact hlb2))
          have hws := HWb.out (i + 1)
          rw [hto, wantS_snoc] at hws
          have HAQ := Lib.hid (Append_inv (gL tb i) HY8.out (by omega) (by omega) HQ8.out.size)
          obtain ⟨sy, hsy⟩ : ∃ s, gL tb i = s := ⟨_, rfl⟩
          rw [hsy] at HAQ hcb hto
          have HTB := Lib.hid hto
          clear hst hst2 e3 hto hgl hws hsy
          go_wp2_with fail
          refine HAQ.out.mono ?_
          rintro e w9 ⟨d9, rfl, hj, ho, hk⟩
          have HX9 := Lib.hid (HX8.out.other hk HNE.out hj.dat ho (by omega))
          rw [← HTB.out] at hj
          have HV9 := Lib.hid (HV8.out.kr hk HY8.out)
          have HU9 := Lib.hid (HU8.out.kr hk HY8.out)
          have HY9 := Lib.hid hj
          have HQ9 : Hid (Q w1 w9) := Lib.hid (hk.toQ HQ8.out (by simpa using HBY.out))
          clear hj ho hk HX8 HY8 HV8 HU8 HQ8 HAQ hcb HTB
          go_wp2_with fail
          go_roundw
          case rel => exact ⟨i + 1, d9, by have := HI6.out; omega, by go_num, HX9.out, HY9.out, HV9.out, HU9.out, HQ9.out⟩
          case measure => have := HI6.out; simp [intOf]; omega
        · have g3 : decide (i < LB) = false := decide_eq_false hlb2
          have hto := take_more (ls := tb) (i := i) (by rw [HLB.out]; omega)
          have HY9 := HY8.out
          rw [← hto] at HY9
          have HY9 := Lib.hid HY9
          clear hto hlb2 HY8
          go_wp2_with fail
          go_roundw
          case rel => exact ⟨i + 1, d8, by have := HI6.out; omega, by go_num, HX8.out, HY9.out, HV8.out, HU8.out, HQ8.out⟩
          case measure => have := HI6.out; simp [intOf]; omega
      · have g2 : decide (i < LA) = false := decide_eq_false hla2
        have hto := take_more (ls := ta) (i := i) (by rw [HLA.out]; omega)
        have HX8 := HX.out
        rw [← hto] at HX8
        have HX8 := Lib.hid HX8
        clear hto hla2 HX
        by_cases hlb2 : i < LB
        · have g3 : decide (i < LB) = true := decide_eq_true hlb2
          obtain ⟨A3, c3, e3, hst, _⟩ := HU.out
          have hst2 : StrsAt wr B1 tb.length tb := by injection e3 with e3 _ _; rw [e3]; exact hst
          obtain ⟨bd1, rfl, hcb⟩ := hst2.at (i := i) (by rw [HLB.out]; exact hlb2)
          have hto := take_one (ls := tb) (i := i) (by rw [HLB.out]; exact hlb2)
          have hgl := HTb.out _ (gL_mem (ls := tb) (i := i) (by rw [HLB.out]; exact hlb2))
          have hws := HWb.out (i + 1)
          rw [hto, wantS_snoc] at hws
          have HAQ := Lib.hid (Append_inv (gL tb i) HY.out (by omega) (by omega) HQ.out.size)
          obtain ⟨sy, hsy⟩ : ∃ s, gL tb i = s := ⟨_, rfl⟩
          rw [hsy] at HAQ hcb hto
          have HTB := Lib.hid hto
          clear hst hst2 e3 hto hgl hws hsy
          go_wp2_with fail
          refine HAQ.out.mono ?_
          rintro e w9 ⟨d9, rfl, hj, ho, hk⟩
          have HX9 := Lib.hid (HX8.out.other hk HNE.out hj.dat ho (by omega))
          rw [← HTB.out] at hj
          have HV9 := Lib.hid (HV.out.kr hk HY.out)
          have HU9 := Lib.hid (HU.out.kr hk HY.out)
          have HY9 := Lib.hid hj
          have HQ9 : Hid (Q w1 w9) := Lib.hid (hk.toQ HQ.out (by simpa using HBY.out))
          clear hj ho hk HX8 HY HV HU HQ HAQ hcb HTB
          go_wp2_with fail
          go_roundw
          case rel => exact ⟨i + 1, d9, by have := HI6.out; omega, by go_num, HX9.out, HY9.out, HV9.out, HU9.out, HQ9.out⟩
          case measure => have := HI6.out; simp [intOf]; omega
        · have g3 : decide (i < LB) = false := decide_eq_false hlb2
          have hto := take_more (ls := tb) (i := i) (by rw [HLB.out]; omega)
          have HY9 := HY.out
          rw [← hto] at HY9
          have HY9 := Lib.hid HY9
          clear hto hlb2 HY
          go_wp2_with fail
          go_roundw
          case rel => exact ⟨i + 1, d, by have := HI6.out; omega, by go_num, HX8.out, HY9.out, HV.out, HU.out, HQ.out⟩
          case measure => have := HI6.out; simp [intOf]; omega
    · have g1 : decide ((i : Int) < 7) = false := decide_eq_false hlt
      have hxl : ta.take i = ta := List.take_of_length_le (by rw [HLA.out]; omega)
      have hyl : tb.take i = tb := List.take_of_length_le (by rw [HLB.out]; omega)
      rw [hxl] at HX
      rw [hyl] at HY
      have HO : Hid (Calls Tryd.prog 13 #[.pointer (some ⟨bd, 0, none⟩), .int .i64 0, .int .i64 32] wr _) := Lib.hid (Open_inv (f := 0) (half := 16) HX.out HQ.out.size)
      clear hxl hyl hlt
      go_wp2_with fail
      refine HO.out.mono ?_
      rintro e w7 ⟨bm, v7, rfl, hs, _, _, _, hq⟩
      have HQ7 := Lib.hid (HQ.out.trans hq)
      have HY7 := Lib.hid (HY.out.q hq)
      have HV7 := Lib.hid (HV.out.q hq)
      have HU7 := Lib.hid (HU.out.q hq)
      have HS7 := Lib.hid hs
      have HO2 : Hid (Calls Tryd.prog 13 #[.pointer (some ⟨bd, 0, none⟩), .int .i64 32, .int .i64 32] w7 _) := Lib.hid (Open_inv (f := 32) (half := 16) HY7.out HQ7.out.size)
      clear hs hq HO HX HY HV HU HQ
      go_wp2_with fail
      refine HO2.out.mono ?_
      rintro e w8 ⟨bn, v8, rfl, hs, _, _, _, hq⟩
      have HQ8 := Lib.hid (HQ7.out.trans hq)
      have HV8 := HV7.out.q hq
      have HU8 := HU7.out.q hq
      obtain ⟨A7, c7, rfl, hs7, _⟩ := HS7.out.q hq
      obtain ⟨A8, c8, rfl, hs8, _⟩ := hs
      obtain ⟨A3, c3, e3, hst, _⟩ := HV8
      have hst3 : StrsAt w8 A1 ta.length ta := by injection e3 with e3 _ _; rw [e3]; exact hst
      obtain ⟨A4, c4, e4, hst4, _⟩ := HU8
      have hst5 : StrsAt w8 B1 tb.length tb := by injection e4 with e4 _ _; rw [e4]; exact hst4
      have HS1 := Lib.hid (same_any A7 A1 c7 c1 ta ta w8 hs7 hst3 (by rw [HLA.out]; omega) (by rw [HLA.out]; omega))
      have HS2 := Lib.hid (fun w' (hq : Q w8 w') => same_any A8 B1 c8 c2 tb tb w' (hs8.q hq) (hst5.q hq) (by rw [HLB.out]; omega) (by rw [HLB.out]; omega))
      rw [HLA.out] at HS1 ⊢
      rw [HLB.out] at HS2 ⊢
      rw [show decide (ta = ta) = true from decide_eq_true rfl] at HS1
      rw [show decide (tb = tb) = true from decide_eq_true rfl] at HS2
      clear hs7 hs8 hst hst3 hst4 hst5 e3 e4 hq HS7 HV7 HU7 HY7 HQ7 HO2
      go_wp2_with fail
      refine HS1.out.mono ?_
      rintro e w9 ⟨rfl, hq9⟩
      have HQ9 := Lib.hid hq9
      clear hq9
      go_wp2_with fail
      refine (HS2.out _ HQ9.out).mono ?_
      rintro e w10 ⟨rfl, hq10⟩
      go_wp2_with fail
      go_ret
      exact ⟨rfl, HQ1.out.trans (HQ8.out.trans (HQ9.out.trans hq10))⟩
end Go.Proofs.YtjbdjkpbkjkdpaaDoor
/- JournalResets, walked. -/
set_option linter.unusedVariables false
set_option linter.unusedSimpArgs false
namespace Go.Proofs.YtjbdjkpbkjkdpaaDoor
open Go Go.RowKit
theorem PowE.val {w : World} {d : DskS} {e : Ending} (h : PowE w d e) : ∃ v, e = .returned v ∧ ((d.gone = false ∧ v = .nilIface) ∨ (d.gone = true ∧ ∃ b, v = .iface 82 (.pointer (some ⟨b, 0, none⟩)) ∧ WrapAt w b 10)) := by
  rcases h with ⟨h1, rfl⟩ | ⟨h1, b, rfl, h2⟩
  · exact ⟨_, rfl, .inl ⟨h1, rfl⟩⟩
  · exact ⟨_, rfl, .inr ⟨h1, b, rfl, h2⟩⟩
set_option maxRecDepth 100000 in
set_option maxHeartbeats 32000000 in
theorem JournalResets_walk (A B C : Option Addr) (ca cb n cc : Nat) (la lb : List (List UInt8)) (bs : List Bool) (fuse torn : Int) (w : World) (hA : StrsAt w A la.length la) (hba : la.length ≤ 9223372036854775807) (hsa : ∀ s ∈ la, s.length ≤ 9223372036854775807)
    (hB : StrsAt w B lb.length lb) (hbb : lb.length ≤ 9223372036854775807) (hsb : ∀ s ∈ lb, s.length ≤ 9223372036854775807) (hf : -9223372036854775808 ≤ fuse ∧ fuse ≤ 9223372036854775807) (hC : BoolsAt w C n bs) (het : ErrT w) :
    Calls Tryd.prog 7 #[.slice A la.length ca, .slice B lb.length cb, .int .i64 fuse, .slice C n cc, .int .i64 torn] w fun e w' => e = .returned (.bool true) ∧ Q w w' := by
  have HTa := Lib.hid (textsL_mem la 6 100)
  have hla := textsL_len la 6 100
  have hwa : wantS (textsL la 6 100) ≤ 12 := by
    have := wantS_le 2 (textsL la 6 100) fun p hp => wantN_le (textsL_mem la 6 100 p hp)
    omega
  have HWa := Lib.hid hwa
  have HXa := Lib.hid (fun w' (hq : Q w w') => texts_any A ca la 6 100 w' (hA.q hq) hba hsa (by decide) (by decide))
  obtain ⟨ta, hta⟩ : ∃ t, textsL la 6 100 = t := ⟨_, rfl⟩
  rw [hta] at HTa HWa HXa hla
  obtain ⟨Na, hNa⟩ : ∃ N, la.length = N := ⟨_, rfl⟩
  rw [hNa] at HXa ⊢
  clear hA hba hsa hta hNa hwa
  have HTb := Lib.hid (textsL_mem lb 6 100)
  have hlb := textsL_len lb 6 100
  have hwb : wantS (textsL lb 6 100) ≤ 12 := by
    have := wantS_le 2 (textsL lb 6 100) fun p hp => wantN_le (textsL_mem lb 6 100 p hp)
    omega
  have HWb := Lib.hid hwb
  have HXb := Lib.hid (fun w' (hq : Q w w') => texts_any B cb lb 6 100 w' (hB.q hq) hbb hsb (by decide) (by decide))
  obtain ⟨tb, htb⟩ : ∃ t, textsL lb 6 100 = t := ⟨_, rfl⟩
  rw [htb] at HTb HWb HXb hlb
  obtain ⟨Nb, hNb⟩ : ∃ N, lb.length = N := ⟨_, rfl⟩
  rw [hNb] at HXb ⊢
  clear hB hbb hsb htb hNb hwb
  have hpk := pickZ_lt fuse 30 (by decide)
  have HPK := Lib.hid (fun w => pick_any fuse 30 w (by decide) hf)
  obtain ⟨F, hF⟩ : ∃ T, pickZ fuse 30 = T := ⟨_, rfl⟩
  rw [hF] at hpk HPK
  have HPP := Lib.hid hpk
  have HBS := Lib.hid hC
  have HET := Lib.hid het
  clear hf hF hpk hC het
  go_enter Tryd.func7, Tryd.ntmps7
  go_wp2_with fail
  refine (known_any w).mono ?_
  rintro e w1 ⟨rfl, hq1⟩
  have HQ1 := Lib.hid hq1
  clear hq1
  go_wp2_with fail
  refine (rack_any w1).mono ?_
  rintro e w2 ⟨⟨bd, bp, gh, rfl, hd⟩, hq2⟩
  have HQ2 := Lib.hid hq2
  have HF : Hid (Calls Tryd.prog 10 #[.pointer (some ⟨bd, 0, none⟩), .int .i64 2, .int .i64 40] w2 _) := Lib.hid (Format_inv 2 20 (rack_live hd) (by decide) (by rw [newD_n]; decide) hq2.size)
  clear hd hq2
  go_wp2_with fail
  refine HF.out.mono ?_
  rintro e w3 ⟨bj, d3, rfl, hj, _, hbj, hk⟩
  have HJ3 := Lib.hid hj
  have HQ3 := Lib.hid (hk.toQ HQ2.out (by simp))
  have HBJ : Hid (w1.heap.size ≤ bj) := Lib.hid (Nat.le_trans HQ2.out.size hbj)
  clear hj hk HF HQ2 hbj
  go_wp2_with fail
  refine (HXa.out w3 (HQ1.out.trans HQ3.out)).mono ?_
  rintro e w4 ⟨⟨va, rfl, hv⟩, hq4⟩
  have HV4 := Lib.hid hv.toS
  have HJ4 := Lib.hid (HJ3.out.q hq4)
  have HQ4 := Lib.hid (HQ3.out.trans hq4)
  clear hv hq4 HJ3 HQ3 HXa
  go_wp2_with fail
  refine (HXb.out w4 (HQ1.out.trans HQ4.out)).mono ?_
  rintro e w5 ⟨⟨vb, rfl, hv⟩, hq5⟩
  have HU5 := Lib.hid hv.toS
  have HV5 := Lib.hid (HV4.out.q hq5)
  have HJ5 := Lib.hid (HJ4.out.q hq5)
  have HQ5 := Lib.hid (HQ4.out.trans hq5)
  obtain ⟨A1, c1, rfl, _⟩ := HV5.out
  obtain ⟨B1, c2, rfl, _⟩ := HU5.out
  obtain ⟨LA, hLA⟩ : ∃ L, ta.length = L := ⟨_, rfl⟩
  obtain ⟨LB, hLB⟩ : ∃ L, tb.length = L := ⟨_, rfl⟩
  rw [hLA] at HV5 hla ⊢
  rw [hLB] at HU5 hlb ⊢
  have HLA := Lib.hid hLA
  have HLB := Lib.hid hLB
  have HLA6 := Lib.hid hla
  have HLB6 := Lib.hid hlb
  clear hv hq5 HV4 HJ4 HQ4 HXb hLA hLB hla hlb
  go_wp2_with fail
  refine (Reset_inv _ ta HJ5.out HV5.out (fun p hp => by have := HTa.out p hp; omega) (by have := HWa.out; omega) (by decide) HQ5.out.size).mono ?_
  rintro e w6 ⟨d6, rfl, hj, _, hk⟩
  have HV6 := Lib.hid (HV5.out.kr hk HJ5.out)
  have HU6 := Lib.hid (HU5.out.kr hk HJ5.out)
  have HJ6 := Lib.hid hj
  have HQ6 : Hid (Q w1 w6) := Lib.hid (hk.toQ HQ5.out (by simpa using HBJ.out))
  clear hj hk HV5 HU5 HJ5 HQ5
  go_wp2_with fail
  refine (HPK.out _).mono ?_
  rintro e wx ⟨rfl, rfl⟩
  have HFU := Lib.hid (Fuse_any F HJ6.out.dat.1 (by have := HPP.out; omega))
  go_wp2_with fail
  refine HFU.out.mono ?_
  rintro e w7 ⟨rfl, hd7, hk7⟩
  have HQ7 : Hid (Q w1 w7) := Lib.hid (hk7.toQ HQ6.out (by simp))
  have HV7 := Lib.hid (HV6.out.k hk7)
  have HU7 := Lib.hid (HU6.out.k hk7)
  have HRP := Lib.hid (Reset_pow _ tb F (by have := HPP.out; omega) HJ6.out HU7.out hd7 hk7 (fun p hp => by have := HTb.out p hp; omega) (by have := HWb.out; omega) (by decide) (HET.out.q HQ1.out) HQ7.out)
  have HKJ : Hid (∀ W, K w1 [bj] w7 W → StrS W (.slice A1 LA c1) ta ∧ StrS W (.slice B1 LB c2) tb) := Lib.hid (fun W hk => by
    have := HJ6.out
    obtain ⟨j, hj, _⟩ := this
    have hj7 : JAt w7 bj bd j := hj.j.k hk7 (by simp)
    exact ⟨HV7.out.kj hk hj7, HU7.out.kj hk hj7⟩)
  clear hd7 hk7 HFU HJ6 HQ6 HV6 HU6 HPK
  go_wp2_with fail
  refine HRP.out.mono ?_
  rintro e w8 ⟨⟨d8, hpe, hcr⟩, hk8⟩
  obtain ⟨ev, rfl, hev⟩ := hpe.val
  have HCR := Lib.hid hcr
  have HEV := Lib.hid hev
  have HQ8 : Hid (Q w1 w8) := Lib.hid (hk8.toQ HQ7.out (by simpa using HBJ.out))
  obtain ⟨hv8, hu8⟩ := HKJ.out w8 hk8
  have HV8 := Lib.hid hv8
  have HU8 := Lib.hid hu8
  obtain ⟨g, hg⟩ : ∃ g, d8.gone = g := ⟨_, rfl⟩
  have HG := Lib.hid hg
  have HGO := Lib.hid (Gone_any hcr.dat)
  rw [hg] at HGO
  have HON := Lib.hid (On_any hcr.dat)
  clear hpe hev hcr hk8 hv8 hu8 hg HRP HKJ HV7 HU7 HQ7
  go_wp2_with fail
  refine HGO.out.mono ?_
  rintro e wx ⟨rfl, rfl⟩
  go_wp2_with fail
  refine HON.out.mono ?_
  rintro e w9 ⟨rfl, hd9, hk9⟩
  have HQ9 : Hid (Q w1 w9) := Lib.hid (hk9.toQ HQ8.out (by simp))
  have HLO := Lib.hid (Lose_any C n cc bs torn hd9 (HBS.out.q HQ1.out) HQ9.out (by show d8.wait.length ≤ _; have := HCR.out.wait; omega))
  have HV9 := Lib.hid (HV8.out.k hk9)
  have HU9 := Lib.hid (HU8.out.k hk9)
  clear hd9 hk9 HGO HON HV8 HU8 HQ8
  go_wp2_with fail
  refine HLO.out.mono ?_
  rintro e w10 ⟨rfl, hd10, hk10⟩
  have HQ10 : Hid (Q w1 w10) := Lib.hid (hk10.toQ HQ9.out (by simp))
  have HV10 := Lib.hid (HV9.out.k hk10)
  have HU10 := Lib.hid (HU9.out.k hk10)
  obtain ⟨j, r, hinv, hf1, hf2, hf3, hr⟩ := HCR.out.inv bs (min (max torn 0) 64).toNat (by omega)
  rw [HG.out] at hr
  have HO := Open_crash hd10 hinv HQ10.out.size
  rw [hf1, hf2] at HO
  have HO : Hid (Calls Tryd.prog 13 #[.pointer (some ⟨bd, 0, none⟩), .int .i64 2, .int .i64 40] w10 _) := Lib.hid HO
  have hrl : r.length ≤ 6 ∧ wantS r ≤ 12 := by
    rcases hr with rfl | ⟨_, rfl⟩
    · exact ⟨by rw [HLB.out]; exact HLB6.out, HWb.out⟩
    · exact ⟨by rw [HLA.out]; exact HLA6.out, HWa.out⟩
  have hje : j.epoch ≤ 1000 := by omega
  have HR := Lib.hid hr
  have HRL := Lib.hid hrl
  have HJE := Lib.hid hje
  clear hd10 hk10 hinv hf1 hf2 hf3 hr hrl hje HV9 HU9 HQ9 HLO HCR
  go_wp2_with fail
  refine HO.out.mono ?_
  rintro e w11 ⟨bk, v11, rfl, hs, hj, hbk, hq⟩
  have HQ11 := Lib.hid (HQ10.out.trans hq)
  have HBK : Hid (w1.heap.size ≤ bk) := Lib.hid (Nat.le_trans HQ10.out.size hbk)
  have HJ11 := Lib.hid hj
  have HV11 := HV10.out.q hq
  have HU11 := HU10.out.q hq
  obtain ⟨A7, c7, rfl, hs7, hty7⟩ := hs
  obtain ⟨A3, c3, e3, hst, _⟩ := HV11
  have hst3 : StrsAt w11 A1 ta.length ta := by injection e3 with e3 _ _; rw [e3]; exact hst
  obtain ⟨A4, c4, e4, hst4, _⟩ := HU11
  have hst5 : StrsAt w11 B1 tb.length tb := by injection e4 with e4 _ _; rw [e4]; exact hst4
  have HS1 := Lib.hid (same_any A7 A1 c7 c1 r ta w11 hs7 hst3 (by have := HRL.out; omega) (by rw [HLA.out]; have := HLA6.out; omega))
  have HS2 := Lib.hid (fun w' (hq : Q w11 w') => same_any A7 B1 c7 c2 r tb w' (hs7.q hq) (hst5.q hq) (by have := HRL.out; omega) (by rw [HLB.out]; have := HLB6.out; omega))
  rw [HLA.out] at HS1
  rw [HLB.out] at HS2
  obtain ⟨LR, hLR⟩ : ∃ L, r.length = L := ⟨_, rfl⟩
  rw [hLR] at HS1 HS2 ⊢
  have HLR := Lib.hid hLR
  obtain ⟨O, hO⟩ : ∃ b, decide (r = ta) = b := ⟨_, rfl⟩
  obtain ⟨N, hN⟩ : ∃ b, decide (r = tb) = b := ⟨_, rfl⟩
  rw [hO] at HS1
  rw [hN] at HS2
  have HOO := Lib.hid hO
  have HNN := Lib.hid hN
  clear hs7 hty7 hst hst3 hst4 hst5 e3 e4 hq hj hbk hLR hO hN HO HQ10 HV10 HU10
  go_wp2_with fail
  refine HS1.out.mono ?_
  rintro e w12 ⟨rfl, hq12⟩
  have HQ12 := Lib.hid hq12
  clear hq12
  go_wp2_with fail
  refine (HS2.out _ HQ12.out).mono ?_
  rintro e w13 ⟨rfl, hq13⟩
  have HJ13 := Lib.hid (HJ11.out.q (HQ12.out.trans hq13))
  have HQ13 := Lib.hid (HQ11.out.trans (HQ12.out.trans hq13))
  clear hq13 HS1 HS2 HJ11 HQ11 HQ12
  have hcase : (g = false ∧ ev = .nilIface ∧ N = true) ∨ (g = true ∧ (∃ b, ev = .iface 82 (.pointer (some ⟨b, 0, none⟩))) ∧ N = true) ∨ (g = true ∧ (∃ b, ev = .iface 82 (.pointer (some ⟨b, 0, none⟩))) ∧ N = false ∧ O = true) := by
    have h1 := HEV.out
    have h2 := HR.out
    rw [HG.out] at h1
    rcases h1 with ⟨h1, h3⟩ | ⟨h1, b, h3, _⟩
    · left
      refine ⟨h1, h3, ?_⟩
      rcases h2 with h2 | ⟨h2, _⟩
      · rw [← HNN.out]; exact decide_eq_true h2
      · rw [h1] at h2; cases h2
    · right
      cases hNv : N with
      | true => exact .inl ⟨h1, ⟨b, h3⟩, rfl⟩
      | false =>
        refine .inr ⟨h1, ⟨b, h3⟩, rfl, ?_⟩
        rcases h2 with h2 | ⟨_, h2⟩
        · have := HNN.out; rw [decide_eq_true h2, hNv] at this; cases this
        · rw [← HOO.out]; exact decide_eq_true h2
  have HAP : Hid (Calls Tryd.prog 12 #[.pointer (some ⟨bk, 0, none⟩), .string ⟨#[109, 111, 114, 101]⟩] w13 _) := Lib.hid (Append_inv [109, 111, 114, 101] HJ13.out (by decide) (by rw [show wantN [109, 111, 114, 101] = 1 from rfl]; have := HRL.out; omega) HQ13.out.size)
  have hlri : LR ≤ 6 := by rw [← HLR.out]; exact HRL.out.1
  have hlri2 : (LR : Int) ≤ 6 := by omega
  clear HEV HR HG HOO HNN
  rcases hcase with ⟨rfl, rfl, rfl⟩ | ⟨rfl, ⟨b, rfl⟩, rfl⟩ | ⟨rfl, ⟨b, rfl⟩, rfl, rfl⟩
  all_goals
    go_wp2_with fail
    refine HAP.out.mono ?_
    rintro e w14 ⟨d14, rfl, hj, _, hk⟩
    have HJ14 := Lib.hid hj
    have HQ14 : Hid (Q w1 w14) := Lib.hid (hk.toQ HQ13.out (by simpa using HBK.out))
    have HO : Hid (Calls Tryd.prog 13 #[.pointer (some ⟨bd, 0, none⟩), .int .i64 2, .int .i64 40] w14 _) := Lib.hid (Open_inv (f := 2) (half := 20) hj HQ14.out.size)
    clear hj hk HAP HJ13 HQ13
    go_wp2_with fail
    refine HO.out.mono ?_
    rintro e w15 ⟨bm, v15, rfl, hs, _, hj, _, hq⟩
    have HJ15 := Lib.hid hj
    have HQ15 := Lib.hid (HQ14.out.trans hq)
    obtain ⟨A8, c8, rfl, hst, _⟩ := hs
    have hle : (r ++ [[109, 111, 114, 101]]).length = LR + 1 := by rw [List.length_append, HLR.out]; rfl
    rw [hle] at hst ⊢
    obtain ⟨ad, rfl, hc⟩ := hst.at (i := LR) (by omega)
    rw [show gL (r ++ [[109, 111, 114, 101]]) LR = [109, 111, 114, 101] by rw [← HLR.out]; simp [gL, List.getD]] at hc
    clear hj hq hst HO HJ14 HQ14 hle
    go_wp2_with fail
    have hq16 : Q w15 (w15.alloc (.cells ([[108, 97, 115, 116]].map strV).toArray 9)) := (Q.refl _).alloc _
    have HS16 : Hid (StrS (w15.alloc (.cells #[.string ⟨#[108, 97, 115, 116]⟩] 9)) (.slice (some ⟨w15.heap.size, 0, none⟩) 1 1) [[108, 97, 115, 116]]) := Lib.hid (StrS_new w15 [[108, 97, 115, 116]] 1)
    have HJ16 : Hid (JR w1 (w15.alloc (.cells #[.string ⟨#[108, 97, 115, 116]⟩] 9)) bk bd bp gh 2 20 j.epoch d14 _) := Lib.hid (HJ15.out.q hq16)
    have HQ16 : Hid (Q w1 (w15.alloc (.cells #[.string ⟨#[108, 97, 115, 116]⟩] 9))) := Lib.hid (HQ15.out.trans hq16)
    clear hq16 HJ15 HQ15
    generalize w15.alloc (.cells #[.string ⟨#[108, 97, 115, 116]⟩] 9) = W16 at HS16 HJ16 HQ16 ⊢
    refine (Reset_inv _ [[108, 97, 115, 116]] HJ16.out HS16.out (by simp) (by decide) (by have := HJE.out; omega) HQ16.out.size).mono ?_
    rintro e w17 ⟨d17, rfl, hj, _, hk⟩
    have HQ17 : Hid (Q w1 w17) := Lib.hid (hk.toQ HQ16.out (by simpa using HBK.out))
    have HO : Hid (Calls Tryd.prog 13 #[.pointer (some ⟨bd, 0, none⟩), .int .i64 2, .int .i64 40] w17 _) := Lib.hid (Open_inv (f := 2) (half := 20) hj HQ17.out.size)
    clear hj hk HS16 HJ16 HQ16
    go_wp2_with fail
    refine HO.out.mono ?_
    rintro e w18 ⟨bn, v18, rfl, hs, _, _, _, hq⟩
    have HQ18 := Lib.hid (HQ17.out.trans hq)
    obtain ⟨A9, c9, rfl, hst, _⟩ := hs
    obtain ⟨ad2, rfl, hc2⟩ := hst.at (i := 0) (by decide)
    have hc2 : w18.cell? ad2 = some (.string ⟨#[108, 97, 115, 116]⟩) := by
      rw [show gL [[108, 97, 115, 116]] 0 = [108, 97, 115, 116] from rfl] at hc2
      simpa [Addr.add] using hc2
    rw [show ([[108, 97, 115, 116]] : List (List UInt8)).length = 1 from rfl]
    clear hst hq HO HQ17
    go_wp2_with fail
    go_ret
    exact ⟨rfl, HQ1.out.trans HQ18.out⟩
end Go.Proofs.YtjbdjkpbkjkdpaaDoor
/- JournalLooks, walked. -/
set_option linter.unusedVariables false
set_option linter.unusedSimpArgs false
namespace Go.Proofs.YtjbdjkpbkjkdpaaDoor
open Go Go.RowKit
set_option maxHeartbeats 400000 in
theorem record_any (e n : Int) (p : List UInt8) (w : World) (hp : p.length ≤ 60000) (hr : rightB e n = true) :
    Calls Tryd.prog 18 #[.int .i64 e, .int .i64 n, .string ⟨p.toArray⟩] w fun x w' => x = .returned (.string ⟨(packL e n p).toArray⟩) ∧ Q w w' := by
  have HP := Lib.hid (Pack_ok e n p w hp hr)
  clear hr
  go_enter Tryd.func18, Tryd.ntmps18
  go_wp2_with fail
  refine HP.out.mono ?_
  rintro x w1 ⟨rfl, hq⟩
  go_wp2_with fail
  go_ret
  exact ⟨rfl, hq⟩
set_option maxRecDepth 100000 in
set_option maxHeartbeats 32000000 in
theorem JournalLooks_walk (C : Option Addr) (n cc : Nat) (evil : List UInt8) (bs : List Bool) (epoch number fuse torn : Int) (w : World) (hev : evil.length ≤ 140737488355328)
    (hep : -9223372036854775808 ≤ epoch ∧ epoch ≤ 9223372036854775807) (hnu : -9223372036854775808 ≤ number ∧ number ≤ 9223372036854775807) (hf : -9223372036854775808 ≤ fuse ∧ fuse ≤ 9223372036854775807) (hC : BoolsAt w C n bs) (het : ErrT w) :
    Calls Tryd.prog 5 #[.int .i64 epoch, .int .i64 number, .string ⟨evil.toArray⟩, .int .i64 fuse, .slice C n cc, .int .i64 torn] w fun e w' => e = .returned (.bool true) ∧ Q w w' := by
  have HX := Lib.hid (fun w' A ca (hA : StrsAt w' A 1 [evil]) => texts_any A ca [evil] 1 30 w' hA (by rw [List.length_singleton]; decide) (by intro s hs; rw [List.mem_singleton.1 hs]; omega) (by decide) (by decide))
  have htx : textsL [evil] 1 30 = [evil.take 30] := rfl
  rw [htx] at HX
  obtain ⟨ev, hevt⟩ : ∃ ev, evil.take 30 = ev := ⟨_, rfl⟩
  have hev30 : ev.length ≤ 30 := by rw [← hevt, List.length_take]; omega
  rw [hevt] at HX
  have hpe := pickZ_lt epoch 4 (by decide)
  have hpn := pickZ_lt number 4 (by decide)
  have hpf := pickZ_lt fuse 12 (by decide)
  have HPE := Lib.hid (fun w => pick_any epoch 4 w (by decide) hep)
  have HPN := Lib.hid (fun w => pick_any number 4 w (by decide) hnu)
  have HPF := Lib.hid (fun w => pick_any fuse 12 w (by decide) hf)
  obtain ⟨E, hE⟩ : ∃ T, pickZ epoch 4 = T := ⟨_, rfl⟩
  obtain ⟨N, hN⟩ : ∃ T, pickZ number 4 = T := ⟨_, rfl⟩
  obtain ⟨F, hF⟩ : ∃ T, pickZ fuse 12 = T := ⟨_, rfl⟩
  rw [hE] at hpe HPE
  rw [hN] at hpn HPN
  rw [hF] at hpf HPF
  have HREC := Lib.hid (fun w => record_any (1 + E) (1 + N) ev w (by omega) (decide_eq_true ⟨by omega, by omega, by omega, by omega⟩))
  have hlk : (packL (1 + E) (1 + N) ev).length = 64 := by
    rw [packL_len64]; unfold wantN; omega
  obtain ⟨lk, hlke⟩ : ∃ lk, packL (1 + E) (1 + N) ev = lk := ⟨_, rfl⟩
  rw [hlke] at HREC hlk
  obtain ⟨long, hlong⟩ : ∃ s, zL 40 ++ (lk ++ (lk ++ lk)) = s := ⟨_, rfl⟩
  have hll : long.length = 232 := by rw [← hlong]; simp only [List.length_append, length_zL]; omega
  have hz40 : (zL 40).length = 40 := by rw [length_zL]
  obtain ⟨z40, hzz⟩ : ∃ z, zL 40 = z := ⟨_, rfl⟩
  have HT40 := Lib.hid (fun w => text_any 40 w (by decide))
  rw [hzz] at hlong hz40 HT40
  have HLG := Lib.hid hlong
  have HLL := Lib.hid hll
  have hwl : wantN long = 4 := by unfold wantN; rw [hll]
  have HWL := Lib.hid hwl
  have HPF2 := Lib.hid hpf
  have HBS := Lib.hid hC
  have HET := Lib.hid het
  clear hev htx hevt hev30 hep hnu hf hE hN hF hlke hlong hll hzz hwl hpf hC het
  go_enter Tryd.func5, Tryd.ntmps5
  go_wp2_with fail
  refine (known_any w).mono ?_
  rintro e w1 ⟨rfl, hq1⟩
  have HQ1 := Lib.hid hq1
  clear hq1
  go_wp2_with fail
  refine (rack_any w1).mono ?_
  rintro e w2 ⟨⟨bd, bp, gh, rfl, hd⟩, hq2⟩
  have HQ2 := Lib.hid hq2
  have HF : Hid (Calls Tryd.prog 10 #[.pointer (some ⟨bd, 0, none⟩), .int .i64 0, .int .i64 64] w2 _) := Lib.hid (Format_inv 0 32 (rack_live hd) (by decide) (by rw [newD_n]; decide) hq2.size)
  clear hd hq2
  go_wp2_with fail
  refine HF.out.mono ?_
  rintro e w3 ⟨bj, d3, rfl, hj, _, hbj, hk⟩
  have HJ3 := Lib.hid hj
  have HQ3 := Lib.hid (hk.toQ HQ2.out (by simp))
  have HBJ : Hid (w1.heap.size ≤ bj) := Lib.hid (Nat.le_trans HQ2.out.size hbj)
  clear hj hk HF HQ2 hbj
  go_wp2_with fail
  have hq4 : Q w3 (w3.alloc (.cells #[.string ⟨evil.toArray⟩] 9)) := (Q.refl _).alloc _
  have hA4 : StrsAt (w3.alloc (.cells #[.string ⟨evil.toArray⟩] 9)) (some ⟨w3.heap.size, 0, none⟩) 1 [evil] := StrsAt_new w3 _ [evil]
  have HJ4 := Lib.hid (HJ3.out.q hq4)
  have HQ4 := Lib.hid (HQ3.out.trans hq4)
  have HTX := Lib.hid (HX.out _ (some ⟨w3.heap.size, 0, none⟩) 1 hA4)
  clear hq4 hA4 HJ3 HQ3 HX
  generalize w3.alloc (.cells #[.string ⟨evil.toArray⟩] 9) = W4 at HJ4 HQ4 HTX ⊢
  refine HTX.out.mono ?_
  rintro e w5 ⟨⟨v5, rfl, hv⟩, hq5⟩
  obtain ⟨A5, c5, rfl, hst, _⟩ := (hv.toS : StrS w5 v5 [ev])
  obtain ⟨ad5, rfl, hc5⟩ := hst.at (i := 0) (by rw [List.length_singleton]; decide)
  have hc5 : w5.cell? ad5 = some (.string ⟨ev.toArray⟩) := by
    rw [show gL [ev] 0 = ev from rfl] at hc5
    simpa [Addr.add] using hc5
  have HJ5 := Lib.hid (HJ4.out.q hq5)
  have HQ5 := Lib.hid (HQ4.out.trans hq5)
  rw [show ([ev] : List (List UInt8)).length = 1 from rfl]
  clear hv hst hq5 HJ4 HQ4 HTX
  go_wp2_with fail
  refine (HPE.out _).mono ?_
  rintro e wx ⟨rfl, rfl⟩
  go_wp2_with fail
  refine (HPN.out _).mono ?_
  rintro e wx ⟨rfl, rfl⟩
  go_wp2_with fail
  refine (HREC.out _).mono ?_
  rintro e w6 ⟨rfl, hq6⟩
  have HJ6 := Lib.hid (HJ5.out.q hq6)
  have HQ6 := Lib.hid (HQ5.out.trans hq6)
  clear hq6 hc5 HJ5 HQ5 HREC HPE HPN
  go_wp2_with fail
  refine (HT40.out _).mono ?_
  rintro e w7 ⟨rfl, hq7⟩
  have HJ7 := Lib.hid (HJ6.out.q hq7)
  have HQ7 := Lib.hid (HQ6.out.trans hq7)
  clear hq7 HJ6 HQ6 HT40
  go_upto_region 9 with (fail)
  rw [HLG.out]
  clear HLG
  go_wp2_with fail
  refine (HPF.out _).mono ?_
  rintro e wx ⟨rfl, rfl⟩
  have HFU := Lib.hid (Fuse_any F HJ7.out.dat.1 (by have := HPF2.out; omega))
  go_wp2_with fail
  refine HFU.out.mono ?_
  rintro e w8 ⟨rfl, hd8, hk8⟩
  have HQ8 : Hid (Q w1 w8) := Lib.hid (hk8.toQ HQ7.out (by simp))
  have HAP := Lib.hid (Append_pow long F (by have := HPF2.out; omega) HJ7.out hd8 hk8 (by rw [HLL.out]; decide) (by rw [HWL.out]; decide) (HET.out.q HQ1.out) HQ8.out)
  clear hd8 hk8 HFU HJ7 HQ7 HPF
  go_wp2_with fail
  refine HAP.out.mono ?_
  rintro e w9 ⟨⟨d9, hpe9, hcr⟩, hk9⟩
  obtain ⟨v9, rfl, hev9⟩ := hpe9.val
  have HCR := Lib.hid hcr
  have HQ9 : Hid (Q w1 w9) := Lib.hid (hk9.toQ HQ8.out (by simpa using HBJ.out))
  have HON := Lib.hid (On_any hcr.dat)
  clear hpe9 hev9 hcr hk9 HAP HQ8
  go_wp2_with fail
  refine HON.out.mono ?_
  rintro e w10 ⟨rfl, hd10, hk10⟩
  have HQ10 : Hid (Q w1 w10) := Lib.hid (hk10.toQ HQ9.out (by simp))
  have HLO := Lib.hid (Lose_any C n cc bs torn hd10 (HBS.out.q HQ1.out) HQ10.out (by show d9.wait.length ≤ _; have := HCR.out.wait; omega))
  clear hd10 hk10 HON HQ9
  go_wp2_with fail
  refine HLO.out.mono ?_
  rintro e w11 ⟨rfl, hd11, hk11⟩
  have HQ11 : Hid (Q w1 w11) := Lib.hid (hk11.toQ HQ10.out (by simp))
  obtain ⟨j, r, hinv, hf1, hf2, hf3, hr⟩ := HCR.out.inv bs (min (max torn 0) 64).toNat (by omega)
  have hr2 : r = [long] ∨ r = [] := by
    rcases hr with hr | ⟨_, hr⟩
    · exact .inl hr
    · exact .inr hr
  have HO := Open_crash hd11 hinv HQ11.out.size
  rw [hf1, hf2] at HO
  have HO : Hid (Calls Tryd.prog 13 #[.pointer (some ⟨bd, 0, none⟩), .int .i64 0, .int .i64 64] w11 _) := Lib.hid HO
  have hje : j.epoch ≤ 1000 := by omega
  have HJE := Lib.hid hje
  clear hd11 hk11 hinv hf1 hf2 hf3 hr hje HQ10 HLO HCR
  go_wp2_with fail
  refine HO.out.mono ?_
  rintro e w12 ⟨bk, v12, rfl, hs, hj, hbk, hq⟩
  have HQ12 := Lib.hid (HQ11.out.trans hq)
  have HBK : Hid (w1.heap.size ≤ bk) := Lib.hid (Nat.le_trans HQ11.out.size hbk)
  have HJ12 := Lib.hid hj
  obtain ⟨A7, c7, rfl, hs7, _⟩ := hs
  have hwr : wantS r ≤ 4 := by
    rcases hr2 with rfl | rfl
    · rw [show wantS [long] = wantN long from Nat.add_zero _, HWL.out]; exact Nat.le_refl _
    · decide
  have HWR := Lib.hid hwr
  have HAP : Hid (Calls Tryd.prog 12 #[.pointer (some ⟨bk, 0, none⟩), .string ⟨#[97]⟩] w12 _) := Lib.hid (Append_inv [97] hj (by decide) (by rw [show wantN [97] = 1 from rfl]; omega) HQ12.out.size)
  have hfact : ∃ ad, r = [long] → (A7 = some ad ∧ w12.cell? ad = some (.string ⟨long.toArray⟩)) := by
    rcases hr2 with rfl | rfl
    · obtain ⟨ad, rfl, hc⟩ := hs7.at (i := 0) (by rw [List.length_singleton]; decide)
      refine ⟨ad, fun _ => ⟨rfl, ?_⟩⟩
      rw [show gL [long] 0 = long from rfl] at hc
      simpa [Addr.add] using hc
    · exact ⟨⟨0, 0, none⟩, fun h => by cases h⟩
  obtain ⟨ad, had⟩ := hfact
  clear hs7 hj hq hbk hwr HO HQ11
  rcases hr2 with hr2 | hr2
  · obtain ⟨rfl, hc⟩ := had hr2
    have HR := Lib.hid hr2
    rw [show r.length = 1 by rw [hr2]; rfl]
    clear had hr2
    go_wp2_with fail
    clear hc
    refine HAP.out.mono ?_
    rintro e w13 ⟨d13, rfl, hj, _, hk⟩
    have HJ13 := Lib.hid hj
    have HQ13 : Hid (Q w1 w13) := Lib.hid (hk.toQ HQ12.out (by simpa using HBK.out))
    clear hj hk HAP HJ12 HQ12
    go_wp2_with fail
    have hq14 : Q w13 (w13.alloc (.cells ([long, [98]].map strV).toArray 9)) := (Q.refl _).alloc _
    have HS14 : Hid (StrS (w13.alloc (.cells #[.string ⟨long.toArray⟩, .string ⟨#[98]⟩] 9)) (.slice (some ⟨w13.heap.size, 0, none⟩) 2 2) [long, [98]]) := Lib.hid (StrS_new w13 [long, [98]] 2)
    have HJ14 : Hid (JR w1 (w13.alloc (.cells #[.string ⟨long.toArray⟩, .string ⟨#[98]⟩] 9)) bk bd bp gh 0 32 j.epoch d13 _) := Lib.hid (HJ13.out.q hq14)
    have HQ14 : Hid (Q w1 (w13.alloc (.cells #[.string ⟨long.toArray⟩, .string ⟨#[98]⟩] 9))) := Lib.hid (HQ13.out.trans hq14)
    clear hq14 HJ13 HQ13
    generalize w13.alloc (.cells #[.string ⟨long.toArray⟩, .string ⟨#[98]⟩] 9) = W14 at HS14 HJ14 HQ14 ⊢
    refine (Reset_inv _ [long, [98]] HJ14.out HS14.out (by intro p hp; rcases List.mem_cons.1 hp with rfl | hp; rw [HLL.out]; decide; rw [List.mem_singleton.1 hp]; decide) (by rw [wantS_cons, HWL.out]; decide) (by have := HJE.out; omega) HQ14.out.size).mono ?_
    rintro e w15 ⟨d15, rfl, hj, _, hk⟩
    have HJ15 := Lib.hid hj
    have HQ15 : Hid (Q w1 w15) := Lib.hid (hk.toQ HQ14.out (by simpa using HBK.out))
    clear hj hk HS14 HJ14 HQ14
    go_wp2_with fail
    have hq16 : Q w15 (w15.alloc (.cells ([[99]].map strV).toArray 9)) := (Q.refl _).alloc _
    have HS16 : Hid (StrS (w15.alloc (.cells #[.string ⟨#[99]⟩] 9)) (.slice (some ⟨w15.heap.size, 0, none⟩) 1 1) [[99]]) := Lib.hid (StrS_new w15 [[99]] 1)
    have HJ16 : Hid (JR w1 (w15.alloc (.cells #[.string ⟨#[99]⟩] 9)) bk bd bp gh 0 32 _ d15 _) := Lib.hid (HJ15.out.q hq16)
    have HQ16 : Hid (Q w1 (w15.alloc (.cells #[.string ⟨#[99]⟩] 9))) := Lib.hid (HQ15.out.trans hq16)
    clear hq16 HJ15 HQ15
    generalize w15.alloc (.cells #[.string ⟨#[99]⟩] 9) = W16 at HS16 HJ16 HQ16 ⊢
    refine (Reset_inv _ [[99]] HJ16.out HS16.out (by simp) (by decide) (by have := HJE.out; omega) HQ16.out.size).mono ?_
    rintro e w17 ⟨d17, rfl, hj, _, hk⟩
    have HJ17 := Lib.hid hj
    have HQ17 : Hid (Q w1 w17) := Lib.hid (hk.toQ HQ16.out (by simpa using HBK.out))
    clear hj hk HS16 HJ16 HQ16
    go_wp2_with fail
    have hq18 : Q w17 (w17.alloc (.cells ([[100]].map strV).toArray 9)) := (Q.refl _).alloc _
    have HS18 : Hid (StrS (w17.alloc (.cells #[.string ⟨#[100]⟩] 9)) (.slice (some ⟨w17.heap.size, 0, none⟩) 1 1) [[100]]) := Lib.hid (StrS_new w17 [[100]] 1)
    have HJ18 : Hid (JR w1 (w17.alloc (.cells #[.string ⟨#[100]⟩] 9)) bk bd bp gh 0 32 _ d17 _) := Lib.hid (HJ17.out.q hq18)
    have HQ18 : Hid (Q w1 (w17.alloc (.cells #[.string ⟨#[100]⟩] 9))) := Lib.hid (HQ17.out.trans hq18)
    clear hq18 HJ17 HQ17
    generalize w17.alloc (.cells #[.string ⟨#[100]⟩] 9) = W18 at HS18 HJ18 HQ18 ⊢
    refine (Reset_inv _ [[100]] HJ18.out HS18.out (by simp) (by decide) (by have := HJE.out; omega) HQ18.out.size).mono ?_
    rintro e w19 ⟨d19, rfl, hj, _, hk⟩
    have HJ19 := Lib.hid hj
    have HQ19 : Hid (Q w1 w19) := Lib.hid (hk.toQ HQ18.out (by simpa using HBK.out))
    clear hj hk HS18 HJ18 HQ18
    have HAP : Hid (Calls Tryd.prog 12 #[.pointer (some ⟨bk, 0, none⟩), .string ⟨#[101]⟩] w19 _) := Lib.hid (Append_inv [101] HJ19.out (by decide) (by decide) HQ19.out.size)
    go_wp2_with fail
    refine HAP.out.mono ?_
    rintro e w20 ⟨d20, rfl, hj, _, hk⟩
    have HQ20 : Hid (Q w1 w20) := Lib.hid (hk.toQ HQ19.out (by simpa using HBK.out))
    have HO : Hid (Calls Tryd.prog 13 #[.pointer (some ⟨bd, 0, none⟩), .int .i64 0, .int .i64 64] w20 _) := Lib.hid (Open_inv (f := 0) (half := 32) hj HQ20.out.size)
    clear hj hk HAP HJ19 HQ19
    go_wp2_with fail
    refine HO.out.mono ?_
    rintro e w21 ⟨bn, v21, rfl, hs, _, _, _, hq⟩
    have HQ21 := Lib.hid (HQ20.out.trans hq)
    obtain ⟨A9, c9, rfl, hst, _⟩ := hs
    obtain ⟨ad2, rfl, hc2⟩ := hst.at (i := 0) (by decide)
    obtain ⟨ad3, e3, hc3⟩ := hst.at (i := 1) (by decide)
    have hc2 : w21.cell? ad2 = some (.string ⟨#[100]⟩) := by
      rw [show gL ([[100]] ++ [[101]]) 0 = [100] from rfl] at hc2
      simpa [Addr.add] using hc2
    have hc3 : w21.cell? ⟨ad2.block, ad2.off + 1, none⟩ = some (.string ⟨#[101]⟩) := by
      cases e3
      rw [show gL ([[100]] ++ [[101]]) 1 = [101] from rfl] at hc3
      simpa [Addr.add] using hc3
    rw [show ([[100]] ++ [[101]] : List (List UInt8)).length = 2 from rfl]
    clear hst hq e3 HO HQ20
    go_wp2_with fail
    go_ret
    exact ⟨rfl, HQ1.out.trans HQ21.out⟩
  · have HR := Lib.hid hr2
    rw [show r.length = 0 by rw [hr2]; rfl]
    clear had hr2
    go_wp2_with fail
    refine HAP.out.mono ?_
    rintro e w13 ⟨d13, rfl, hj, _, hk⟩
    have HJ13 := Lib.hid hj
    have HQ13 : Hid (Q w1 w13) := Lib.hid (hk.toQ HQ12.out (by simpa using HBK.out))
    clear hj hk HAP HJ12 HQ12
    go_wp2_with fail
    have hq14 : Q w13 (w13.alloc (.cells ([long, [98]].map strV).toArray 9)) := (Q.refl _).alloc _
    have HS14 : Hid (StrS (w13.alloc (.cells #[.string ⟨long.toArray⟩, .string ⟨#[98]⟩] 9)) (.slice (some ⟨w13.heap.size, 0, none⟩) 2 2) [long, [98]]) := Lib.hid (StrS_new w13 [long, [98]] 2)
    have HJ14 : Hid (JR w1 (w13.alloc (.cells #[.string ⟨long.toArray⟩, .string ⟨#[98]⟩] 9)) bk bd bp gh 0 32 j.epoch d13 _) := Lib.hid (HJ13.out.q hq14)
    have HQ14 : Hid (Q w1 (w13.alloc (.cells #[.string ⟨long.toArray⟩, .string ⟨#[98]⟩] 9))) := Lib.hid (HQ13.out.trans hq14)
    clear hq14 HJ13 HQ13
    generalize w13.alloc (.cells #[.string ⟨long.toArray⟩, .string ⟨#[98]⟩] 9) = W14 at HS14 HJ14 HQ14 ⊢
    refine (Reset_inv _ [long, [98]] HJ14.out HS14.out (by intro p hp; rcases List.mem_cons.1 hp with rfl | hp; rw [HLL.out]; decide; rw [List.mem_singleton.1 hp]; decide) (by rw [wantS_cons, HWL.out]; decide) (by have := HJE.out; omega) HQ14.out.size).mono ?_
    rintro e w15 ⟨d15, rfl, hj, _, hk⟩
    have HJ15 := Lib.hid hj
    have HQ15 : Hid (Q w1 w15) := Lib.hid (hk.toQ HQ14.out (by simpa using HBK.out))
    clear hj hk HS14 HJ14 HQ14
    go_wp2_with fail
    have hq16 : Q w15 (w15.alloc (.cells ([[99]].map strV).toArray 9)) := (Q.refl _).alloc _
    have HS16 : Hid (StrS (w15.alloc (.cells #[.string ⟨#[99]⟩] 9)) (.slice (some ⟨w15.heap.size, 0, none⟩) 1 1) [[99]]) := Lib.hid (StrS_new w15 [[99]] 1)
    have HJ16 : Hid (JR w1 (w15.alloc (.cells #[.string ⟨#[99]⟩] 9)) bk bd bp gh 0 32 _ d15 _) := Lib.hid (HJ15.out.q hq16)
    have HQ16 : Hid (Q w1 (w15.alloc (.cells #[.string ⟨#[99]⟩] 9))) := Lib.hid (HQ15.out.trans hq16)
    clear hq16 HJ15 HQ15
    generalize w15.alloc (.cells #[.string ⟨#[99]⟩] 9) = W16 at HS16 HJ16 HQ16 ⊢
    refine (Reset_inv _ [[99]] HJ16.out HS16.out (by simp) (by decide) (by have := HJE.out; omega) HQ16.out.size).mono ?_
    rintro e w17 ⟨d17, rfl, hj, _, hk⟩
    have HJ17 := Lib.hid hj
    have HQ17 : Hid (Q w1 w17) := Lib.hid (hk.toQ HQ16.out (by simpa using HBK.out))
    clear hj hk HS16 HJ16 HQ16
    go_wp2_with fail
    have hq18 : Q w17 (w17.alloc (.cells ([[100]].map strV).toArray 9)) := (Q.refl _).alloc _
    have HS18 : Hid (StrS (w17.alloc (.cells #[.string ⟨#[100]⟩] 9)) (.slice (some ⟨w17.heap.size, 0, none⟩) 1 1) [[100]]) := Lib.hid (StrS_new w17 [[100]] 1)
    have HJ18 : Hid (JR w1 (w17.alloc (.cells #[.string ⟨#[100]⟩] 9)) bk bd bp gh 0 32 _ d17 _) := Lib.hid (HJ17.out.q hq18)
    have HQ18 : Hid (Q w1 (w17.alloc (.cells #[.string ⟨#[100]⟩] 9))) := Lib.hid (HQ17.out.trans hq18)
    clear hq18 HJ17 HQ17
    generalize w17.alloc (.cells #[.string ⟨#[100]⟩] 9) = W18 at HS18 HJ18 HQ18 ⊢
    refine (Reset_inv _ [[100]] HJ18.out HS18.out (by simp) (by decide) (by have := HJE.out; omega) HQ18.out.size).mono ?_
    rintro e w19 ⟨d19, rfl, hj, _, hk⟩
    have HJ19 := Lib.hid hj
    have HQ19 : Hid (Q w1 w19) := Lib.hid (hk.toQ HQ18.out (by simpa using HBK.out))
    clear hj hk HS18 HJ18 HQ18
    have HAP : Hid (Calls Tryd.prog 12 #[.pointer (some ⟨bk, 0, none⟩), .string ⟨#[101]⟩] w19 _) := Lib.hid (Append_inv [101] HJ19.out (by decide) (by decide) HQ19.out.size)
    go_wp2_with fail
    refine HAP.out.mono ?_
    rintro e w20 ⟨d20, rfl, hj, _, hk⟩
    have HQ20 : Hid (Q w1 w20) := Lib.hid (hk.toQ HQ19.out (by simpa using HBK.out))
    have HO : Hid (Calls Tryd.prog 13 #[.pointer (some ⟨bd, 0, none⟩), .int .i64 0, .int .i64 64] w20 _) := Lib.hid (Open_inv (f := 0) (half := 32) hj HQ20.out.size)
    clear hj hk HAP HJ19 HQ19
    go_wp2_with fail
    refine HO.out.mono ?_
    rintro e w21 ⟨bn, v21, rfl, hs, _, _, _, hq⟩
    have HQ21 := Lib.hid (HQ20.out.trans hq)
    obtain ⟨A9, c9, rfl, hst, _⟩ := hs
    obtain ⟨ad2, rfl, hc2⟩ := hst.at (i := 0) (by decide)
    obtain ⟨ad3, e3, hc3⟩ := hst.at (i := 1) (by decide)
    have hc2 : w21.cell? ad2 = some (.string ⟨#[100]⟩) := by
      rw [show gL ([[100]] ++ [[101]]) 0 = [100] from rfl] at hc2
      simpa [Addr.add] using hc2
    have hc3 : w21.cell? ⟨ad2.block, ad2.off + 1, none⟩ = some (.string ⟨#[101]⟩) := by
      cases e3
      rw [show gL ([[100]] ++ [[101]]) 1 = [101] from rfl] at hc3
      simpa [Addr.add] using hc3
    rw [show ([[100]] ++ [[101]] : List (List UInt8)).length = 2 from rfl]
    clear hst hq e3 HO HQ20
    go_wp2_with fail
    go_ret
    exact ⟨rfl, HQ1.out.trans HQ21.out⟩
end Go.Proofs.YtjbdjkpbkjkdpaaDoor
/- A region that draws its order, where two operations may come in either order: both are walked. -/
set_option linter.unusedVariables false
namespace Go.Proofs.YtjbdjkpbkjkdpaaDoor
open Go Go.RowKit
section
variable {P : Program} {ops : Array Oper} {R : Exit → Act → World → Prop} {S : World → Prop}
def forkB (ops : Array Oper) (x y : Nat) (ls : Array Bool) : Bool :=
  decide (Region.ready .any ops ls = [x, y]) && (ops[x]?).isSome && (ops[y]?).isSome && decide (x ≠ y) && forcedB ops [y] (ls.setIfInBounds x true) && forcedB ops [x] (ls.setIfInBounds y true)
theorem any_fork (f x y : Nat) (ls : Array Bool) (a : Act) (w : World) (E : Act → World → Prop) (hS : S w) (hB : forkB ops x y ls = true) (hE : ∀ a w, S w → E a w → wpAnyH P .any ops R S f (markB [x, y] ls) a w)
    (h1 : wpListK P ops R S E ([x, y].map (ops.getD · default)) a w) (h2 : wpListK P ops R S E ([y, x].map (ops.getD · default)) a w) : wpAnyH P .any ops R S (2 + f) ls a w := by
  simp only [forkB, Bool.and_eq_true, decide_eq_true_eq] at hB
  obtain ⟨⟨⟨⟨⟨hr, hx⟩, hy⟩, hne⟩, hB1⟩, hB2⟩ := hB
  rw [show 2 + f = (1 + f) + 1 by omega]
  refine wpAnyH_all hr (by simp) fun i hi => ?_
  have hi : i = x ∨ i = y := by simpa using hi
  rcases hi with rfl | rfl
  · obtain ⟨o, ho⟩ := Option.isSome_iff_exists.1 hx
    have hk : ops.getD i default = o := by simp [Array.getD_eq_getD_getElem?, ho]
    rw [List.map_cons, hk] at h1
    exact wpOp_of_one ho (h1 _ (fun a' w' hs h' => ⟨hs, any_chain f [y] _ a' w' E hs hB1 hE h'⟩))
  · obtain ⟨o, ho⟩ := Option.isSome_iff_exists.1 hy
    have hk : ops.getD i default = o := by simp [Array.getD_eq_getD_getElem?, ho]
    rw [List.map_cons, hk] at h2
    refine wpOp_of_one ho (h2 _ (fun a' w' hs h' => ⟨hs, any_chain f [x] _ a' w' E hs hB2 (fun a w hs he => ?_) h'⟩))
    have e : markB [x] (ls.setIfInBounds i true) = markB [x, i] ls := by
      show (ls.setIfInBounds i true).setIfInBounds x true = (ls.setIfInBounds x true).setIfInBounds i true
      rw [Array.setIfInBounds_comm _ _ (Ne.symm hne)]
    rw [e]
    exact hE a w hs he
end
/-- First reads, then x and y in either order, then the rest in stages. -/
theorem wp_fork {P : Program} {id : Nat} {R : Exit → Act → World → Prop} {a : Act} {w : World} {l : List Oper} (hd : List Nat) (x y : Nat) (ps : List (List Nat × List Nat)) (hm : P.follows .mixedOrders = true)
    (hB : (Region.noSelect l.toArray && pureB .any l.toArray hd (Array.replicate l.length false) && forkB l.toArray x y (markB hd (Array.replicate l.length false)) && planB l.toArray ps (markB [x, y] (markB hd (Array.replicate l.length false))) && decide (hd.length + (2 + planN ps) = l.length)) = true)
    (hQ : ∀ c a d v w, R (.panic c) (Act.put a d v) w → R (.panic c) a w)
    (h : wpQuiet P l.toArray (fun w' => ∃ m : QW w, w' = m.val) (fun a' => wpListK P l.toArray R (fun w' => ∃ m : QW w, w' = m.val) (wpPlan P l.toArray R (fun w' => ∃ m : QW w, w' = m.val) ps) ([x, y].map (l.toArray.getD · default)) a' w.drew ∧
      wpListK P l.toArray R (fun w' => ∃ m : QW w, w' = m.val) (wpPlan P l.toArray R (fun w' => ∃ m : QW w, w' = m.val) ps) ([y, x].map (l.toArray.getD · default)) a' w.drew) (hd.map (l.toArray.getD · default)) a) : (Code.region id l.toArray true).wp P R a w := by
  simp only [Bool.and_eq_true, decide_eq_true_eq] at hB
  obtain ⟨⟨⟨⟨h1, h2⟩, h3⟩, h4⟩, h5⟩ := hB
  refine wp_region_held (S := fun w' => ∃ m : QW w, w' = m.val) hm ?_
  have := any_headS (S := fun w' => ∃ m : QW w, w' = m.val) h1 hQ (2 + planN ps) w.drew ⟨⟨w.drew, (Q.refl w).drew⟩, rfl⟩ hd (Array.replicate l.length false) a h2 (wpQuiet_mono (fun a' h' =>
    any_fork (planN ps) x y _ a' w.drew _ ⟨⟨w.drew, (Q.refl w).drew⟩, rfl⟩ h3 (fun a w hs he => any_plan h1 hQ ps _ a w hs h4 he) h'.1 h'.2) _ _ h)
  rw [h5] at this
  exact this
end Go.Proofs.YtjbdjkpbkjkdpaaDoor
