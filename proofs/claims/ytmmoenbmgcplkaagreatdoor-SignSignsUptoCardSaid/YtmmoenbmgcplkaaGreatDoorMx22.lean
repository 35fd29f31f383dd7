/- Texts of this proof, laid into one: Sjc, Sjp, MpW, Sjs. -/
import Derived.Test.YtmmoenbmgcplkaaGreatDoorMx21
import Derived.Laws.AppendOwnNone
set_option linter.unusedVariables false
set_option linter.unusedSimpArgs false
namespace Go.Proofs.YtmmoenbmgcplkaaGreatDoor
open Go Go.RowKit
def endL (ls : List (List UInt8)) : List UInt8 := ls.flatMap fun l => l ++ [10]
theorem endL_snoc (ls : List (List UInt8)) (l : List UInt8) : endL (ls ++ [l]) = endL ls ++ (l ++ [10]) := by unfold endL; rw [List.flatMap_append]; simp
theorem endL_app (ls ms : List (List UInt8)) : endL (ls ++ ms) = endL ls ++ endL ms := by unfold endL; rw [List.flatMap_append]
theorem join_end (ls : List (List UInt8)) (l : List UInt8) : Lib.join (ls ++ [l]) [10] = endL ls ++ l := by
  induction ls with
  | nil => rw [List.nil_append, join_one]; rfl
  | cons a r ih =>
    rcases hr : r ++ [l] with _ | ⟨b, t⟩
    · simp at hr
    · rw [List.cons_append, hr, join_cons, ← hr, ih]
      unfold endL
      simp
theorem endL_len (ls : List (List UInt8)) : (endL ls).length = sumU ls := by
  unfold endL sumU
  induction ls with
  | nil => rfl
  | cons a r ih => rw [List.flatMap_cons, List.length_append, ih]; simp
theorem linesL_next {fs : List PairD} {ns : List (List UInt8)} {k : Nat} {ls : List (List UInt8)} {v : List UInt8} (hk : k < ns.length) (h : linesL fs (ns.take k) = some ls) (hv : fieldL fs (gL ns k) = some v) : linesL fs (ns.take (k + 1)) = some (ls ++ [gL ns k ++ 58 :: squeezeL v]) := by
  rw [take_snocG ns k hk, linesL_snoc, h]
  simp only
  unfold lineL
  rw [hv]
  rfl
set_option maxRecDepth 100000 in
set_option maxHeartbeats 8000000 in
theorem RCanonical_any (r : ReqD) (A : Option Addr) (n c : Nat) (B : Option Addr) (k kc : Nat) (names : List (List UInt8)) (w : World) (hf : PairsAt w A n r.fs) (hc : n ≤ c) (hcap : c ≤ 9223372036854775807) (hok : ReqOk r)
    (hnm : NmAt w B k names) (hkc : k ≤ kc) (hk : k ≤ 1060000) (hnb : sumU names ≤ 10000000) :
    Calls Tryz.prog 14 #[.agg (reqC r A n c).toArray, .slice B k kc] w fun e w' => e = .returned (.tuple #[.string ⟨((canonQ r names).getD []).toArray⟩, .bool (canonQ r names).isSome]) ∧ Q w w' := by
  have hnl : ∀ x ∈ names, x.length ≤ 100000000 := fun x hx => by
    obtain ⟨j, hj, rfl⟩ := List.mem_iff_getElem.1 hx
    have := part_sumU names j hj
    rw [gL_get _ _ hj] at this; omega
  have HT := Lib.hid (fun W => RTarget_any r.tg W (by have := hok.tg; omega))
  unfold TgtPost at HT
  have HNM := Lib.hid hnm
  have HF := Lib.hid hf
  have HN := Lib.hid (fun W (h : NmAt W B k names) => RNames_any B k kc names W h (by omega) hnl)
  have hcnt : 3 * r.fs.length ≤ 10000000 := by
    have h1 : ∀ ps : List PairD, 3 * ps.length ≤ (ps.map fun p => p.1.length + p.2.length + 3).sum := by
      intro ps
      induction ps with
      | nil => simp
      | cons p t ih => simp only [List.map_cons, List.sum_cons, List.length_cons]; omega
    exact Nat.le_trans (h1 r.fs) hok.hv
  have hea : ∀ p ∈ r.fs, p.1.length ≤ 10000000 ∧ p.2.length ≤ 10000000 := fun p hp => by have := heavy_mem hp; have h2 := hok.hv; unfold heavy at this; omega
  have hn0 := hf.1
  have HFd := Lib.hid (fun (t : List UInt8) W (hq : Q w W) (ht : t.length ≤ 100000000) => RField_any A n c r.fs t W (hf.q hq) (by omega) hea ht)
  have hfm : ∀ t v, fieldL r.fs t = some v → v.length ≤ 10000000 := fun t v h => by have := fieldL_mem h; have hv := hok.hv; unfold heavy at this; omega
  have HLE := Lib.hid (fun ns ls h => linesL_each r.fs 10000000 hfm ns ls h)
  have HFM := Lib.hid hfm
  have HJ := Lib.hid (fun W (h : NmAt W B k names) => RJoined_any B k kc names 59 W h (by omega))
  have hjl : (Lib.join names [59]).length ≤ 10000000 := Nat.le_trans (sum_len_join 59 names) hnb
  have HTK := Lib.hid (fun j => Nat.le_trans (sumU_take names j) hnb)
  have hgl : ∀ j, (gL names j).length ≤ 10000000 := fun j => by
    by_cases hj : j < names.length
    · have := part_sumU names j hj; omega
    · have : gL names j = [] := by simp [gL, List.getD, hj]
      rw [this]; simp
  have HGL := Lib.hid hgl
  have HSq := Lib.hid (fun (v : List UInt8) W (h : v.length ≤ 100000000) => RSqueezed_any v W h)
  obtain ⟨J, hJ⟩ : ∃ x, Lib.join names [59] = x := ⟨_, rfl⟩
  rw [hJ] at HJ hjl
  have hth := tgt_heavy r.tg
  have htg := hok.tg
  have hmm := hok.m
  obtain ⟨q, hq⟩ : ∃ q, canonQ r names = q := ⟨_, rfl⟩
  rw [hq]
  unfold canonQ at hq
  rw [hJ] at hq
  have HQQ := Lib.hid hq
  obtain ⟨N, w0, hN, e0, hb0, hq0⟩ : ∃ N w0, w.heap.size = N ∧ w.alloc (.cells (reqV r (.slice A n c)).toArray 24) = w0 ∧ RB w0 N r (.slice A n c) ∧ Q w w0 := ⟨_, _, rfl, rfl, RB.new w r _, (Q.refl w).alloc _⟩
  have HB0 := Lib.hid hb0
  have HQ0 := Lib.hid hq0
  obtain ⟨⟨path, qs, ee, aa⟩, hT⟩ : ∃ T, tgtL r.tg = T := ⟨_, rfl⟩
  rw [hT] at HT hth
  have hHd : headL r = [r.m, encL false path, canonL qs] := by unfold headL; rw [hT]
  rw [hT, hHd] at HQQ
  simp only at HT hth
  obtain ⟨hth1, hth2⟩ := hth
  have hql := heavy_len qs
  have hqe : ∀ p ∈ qs, p.1.length ≤ 10000000 ∧ p.2.length ≤ 10000000 := fun p hp => by have := heavy_mem hp; omega
  have hcl := canon_heavy qs
  have hel := encL_le false path
  have HE := Lib.hid (fun W => REncode_any path false W (by omega))
  have HC := Lib.hid (fun (A2 : Option Addr) (c2 : Nat) W (hp : PairsAt W A2 qs.length qs) (hc2 : qs.length ≤ c2) (hcb : c2 ≤ 9223372036854775807) => RCanon_any A2 qs.length c2 qs W hp hc2 hcb (by omega) hqe)
  obtain ⟨E, hE⟩ : ∃ E, encL false path = E := ⟨_, rfl⟩
  obtain ⟨C, hC⟩ : ∃ C, canonL qs = C := ⟨_, rfl⟩
  rw [hE] at HE
  rw [hC] at HC
  rw [hE, hC] at HQQ
  have hEl : E.length ≤ 4000000 := by rw [← hE]; omega
  have hCl : C.length ≤ 10000000 := by rw [← hC]; omega
  clear hth1 hth2 hql hqe hcl hel hE hC hHd hT hq hJ hf hnm hok hnb hgl hea hfm hcnt hb0 hq0 hnl htg hn0
  obtain ⟨m, tg, minor, fs, body, close⟩ := r
  simp only [reqV] at e0
  simp only at HT HQQ HFd HLE HFM hmm
  unfold reqC
  go_enter Tryz.func14, Tryz.ntmps14
  obtain ⟨b0, b1, b2, b3, b4, b5⟩ := HB0.out.c
  go_wp2_with fail
  refine (HT.out _).mono ?_
  rintro e w2 ⟨v7, rfl, ho7, hq2⟩
  have HQ2 := Lib.hid (HQ0.out.trans hq2)
  have HO2 := Lib.hid ho7
  have HB2 := Lib.hid (HB0.out.q hq2)
  clear hq2 ho7 b0 b1 b2 b3 b4 b5 e0 hN HQ0 HB0
  go_wp2_with fail
  refine (HN.out _ (HNM.out.q HQ2.out)).mono ?_
  rintro e w3 ⟨⟨rr, rfl, hr⟩, hq3⟩
  have HQ3 := Lib.hid (HQ2.out.trans hq3)
  have HO3 := Lib.hid (HO2.out.q hq3)
  have HB3 := Lib.hid (HB2.out.q hq3)
  clear hq3 HQ2 HO2 HB2 HN
  by_cases he : ee = 0
  rotate_left
  · have q1 : (((ee : Nat) : Int) != 0) = true := by simp only [bne_iff_ne, ne_eq]; omega
    have HR : Hid (q = none) := Lib.hid (by rw [← HQQ.out, if_neg (fun h => he h.1)])
    clear he hr
    go_wp2_with fail
    go_ret2
    exact ⟨by rw [HR.out]; rfl, HQ3.out⟩
  have q1 : (((ee : Nat) : Int) != 0) = false := by rw [he]; rfl
  rcases rr with _ | _
  · have HR : Hid (q = none) := Lib.hid (by rw [← HQQ.out, if_neg (fun h => by have := hr.2 h.2; cases this)])
    clear he hr
    go_wp2_with fail
    go_ret2
    exact ⟨by rw [HR.out]; rfl, HQ3.out⟩
  have hno := hr.1 rfl
  have HQ4 : Hid ((match linesL fs names, fieldL fs bodySumL with | some ls, some sum => some (Lib.join ([m, E, C] ++ ls ++ [[], J, sum]) [10]) | _, _ => none) = q) := Lib.hid (by rw [← HQQ.out, if_pos ⟨he, hno⟩]; rcases linesL fs names with _ | _ <;> rcases fieldL fs bodySumL with _ | _ <;> rfl)
  clear hr hno he HQQ
  obtain ⟨A2, c2, rfl, hc2, hp2⟩ := HO3.out.pairs
  have hcb2 := HO3.out.capb'
  have HC3 : Hid (∀ W, Q w3 W → Calls Tryz.prog 39 #[.slice A2 qs.length c2] W fun e w' => e = .returned (.string ⟨C.toArray⟩) ∧ Q W w') := Lib.hid (fun W hq => HC.out A2 c2 W (hp2.q hq) hc2 hcb2)
  have d0 : ∀ mm : QW w3, mm.val.cell? ⟨N, 0, none⟩ = some (.string ⟨m.toArray⟩) := fun mm => mm.cell HB3.out.c.1
  clear hc2 hp2 hcb2 HC
  go_upto_region 5 with (fail)
  refine wp_region_q (by kernel_rfl) (by kernel_rfl) ?_
  (repeat (go_big_quiet_step (first | (go_at_call 38; exact calls_q (HE.out _)) | (go_at_call 39; exact calls_q (HC3.out _ (QW.le _))))))
  refine wpQuiet_nil ?_
  rintro w4 ⟨m4, hm4⟩
  have hq4 : Q w3 w4 := by rw [hm4]; exact m4.le
  have HQ5 := Lib.hid (HQ3.out.trans hq4)
  have HB5 := Lib.hid (HB3.out.q hq4)
  clear m4 hm4 hq4 d0 HE HC3 HO3 HQ3 HB3
  have HS0 : Hid (endL [m, E, C] = m ++ 10 :: (E ++ 10 :: (C ++ [10]))) := Lib.hid (by simp [endL])
  have hl0 : (m ++ 10 :: (E ++ 10 :: (C ++ [10]))).length ≤ 24000003 := by
    simp only [List.length_append, List.length_cons, List.length_nil]; omega
  have HKN := Lib.hid HNM.out.1
  obtain ⟨S0, hS0⟩ : ∃ x, m ++ 10 :: (E ++ 10 :: (C ++ [10])) = x := ⟨_, rfl⟩
  rw [hS0] at HS0 hl0 ⊢
  clear hS0
  have HBnd : Hid (∀ ls, (∃ j, linesL fs (names.take j) = some ls) → (endL ([m, E, C] ++ ls)).length ≤ 20000000000000) := Lib.hid (fun ls ⟨j, h⟩ => by
    have h1 := HLE.out _ _ h
    have h2 := HTK.out j
    have h3 : (names.take j).length ≤ 1060000 := by rw [List.length_take]; have := HKN.out; omega
    have h4 : ls.length * 10000002 ≤ 1060000 * 10000002 := Nat.mul_le_mul_right _ (by omega)
    rw [endL_len]
    simp only [sumU, List.map_append, List.map_cons, List.map_nil, List.sum_append, List.sum_cons, List.sum_nil] at *
    omega)
  clear HLE HTK
  go_wp2_with fail
  go_loopw [11, 12] (fun sv i wr => ∃ (j : Nat) (ls : List (List UInt8)) (s : List UInt8), j ≤ k ∧ sv = .string ⟨s.toArray⟩ ∧ i = .int .i64 (j : Int) ∧ Hid (linesL fs (names.take j) = some ls) ∧ Hid (s = endL ([m, E, C] ++ ls)) ∧ s.length ≤ 20000000000000 ∧ Hid (Q w wr) ∧ Hid (RB wr N ⟨m, tg, minor, fs, body, close⟩ (.slice A n c))) (fun _ i _ => k - (intOf i).toNat)
  case atStart => exact ⟨0, [], S0, by omega, rfl, rfl, Lib.hid rfl, Lib.hid (by rw [List.append_nil, HS0.out]), by omega, HQ5, HB5⟩
  case round =>
    clear HQ5 HB5
    obtain ⟨j, ls, s, hj, rfl, rfl, HL, HSE, hsl, HQj, HBj⟩ := hrel
    rename World => wa
    by_cases hlt : j < k
    · have g1 : decide (j < k) = true := by simpa using hlt
      have hjn : j < names.length := by rw [← HKN.out]; exact hlt
      obtain ⟨gb, ob, rfl, cn⟩ := (HNM.out.q HQj.out).at hlt
      have hnl2 := HGL.out j
      have HNo := Lib.hid (fun h => linesL_none (fs := fs) (ns := names) j hjn h)
      have HNx := Lib.hid (fun v h => linesL_next (fs := fs) (v := v) hjn HL.out h)
      obtain ⟨nm, hnm2⟩ : ∃ nm, gL names j = nm := ⟨_, rfl⟩
      rw [hnm2] at cn hnl2 HNo HNx
      obtain ⟨FV, hFV⟩ : ∃ x, fieldL fs nm = x := ⟨_, rfl⟩
      have HFV := Lib.hid hFV
      have HFn : Hid (∀ W, Q w W → Calls Tryz.prog 40 #[.slice A n c, .string ⟨nm.toArray⟩] W fun e w' => e = .returned (.tuple #[.string ⟨(FV.getD []).toArray⟩, .bool FV.isSome]) ∧ Q W w') := Lib.hid (fun W hq => by
        have := HFd.out nm W hq (by omega)
        rw [hFV] at this; exact this)
      clear hnm2 hFV
      have d3 : ∀ mm : QW wa, mm.val.cell? ⟨N, 3, none⟩ = some (.slice A n c) := fun mm => mm.cell HBj.out.c.2.2.2.1
      have dn : ∀ mm : QW wa, mm.val.cell? ⟨gb, ob + j, none⟩ = some (.string ⟨nm.toArray⟩) := fun mm => mm.cell cn
      go_upto_region 9 with (fail)
      refine wp_region_q (by kernel_rfl) (by kernel_rfl) ?_
      (repeat (go_big_quiet_step ((go_at_call 40; exact calls_q (HFn.out _ (Q.trans HQj.out (QW.le _)))))))
      refine wpQuiet_nil ?_
      rintro wb ⟨mb, hmb⟩
      have hqb : Q wa wb := by rw [hmb]; exact mb.le
      have HQb := Lib.hid (HQj.out.trans hqb)
      have HBb := Lib.hid (HBj.out.q hqb)
      have cnb := hqb.cell cn
      clear mb hmb hqb d3 dn cn HQj HBj HFn
      rcases FV with _ | v
      · have HR : Hid (q = none) := Lib.hid (by
          have h1 := HNo.out (by unfold lineL; rw [HFV.out]; rfl)
          rw [← HQ4.out, h1])
        simp only [Option.getD_none, Option.isSome_none]
        clear HNo HNx
        go_wp2_with fail
        go_ret2
        rw [HR.out]
        exact ⟨rfl, HQb.out⟩
      · have hvl := HFM.out nm v HFV.out
        have HNx2 := Lib.hid (HNx.out v HFV.out)
        have HSqv := Lib.hid (fun W => HSq.out v W (by omega))
        have hsql := squeeze_le v
        obtain ⟨SQ, hSQ⟩ : ∃ x, squeezeL v = x := ⟨_, rfl⟩
        rw [hSQ] at HNx2 HSqv hsql
        have HSN : Hid (s ++ (nm ++ 58 :: (SQ ++ [10])) = endL ([m, E, C] ++ (ls ++ [nm ++ 58 :: SQ]))) := Lib.hid (by rw [← List.append_assoc [m, E, C], endL_snoc, ← HSE.out]; simp)
        have hsn : (s ++ (nm ++ 58 :: (SQ ++ [10]))).length ≤ 20000000000000 := by rw [HSN.out]; exact HBnd.out _ ⟨j + 1, HNx2.out⟩
        simp only [Option.getD_some, Option.isSome_some]
        clear HNo HNx hSQ
        go_upto_region 12 with (fail)
        have dn : ∀ mm : QW wb, mm.val.cell? ⟨gb, ob + j, none⟩ = some (.string ⟨nm.toArray⟩) := fun mm => mm.cell cnb
        refine wp_region_q (by kernel_rfl) (by kernel_rfl) ?_
        (repeat (go_big_quiet_step ((go_at_call 41; exact calls_q (HSqv.out _)))))
        refine wpQuiet_nil ?_
        rintro wd ⟨md, hmd⟩
        have hqd : Q wb wd := by rw [hmd]; exact md.le
        have HQd := Lib.hid (HQb.out.trans hqd)
        have HBd := Lib.hid (HBb.out.q hqd)
        clear md hmd hqd dn cnb HQb HBb
        go_wp2_with fail
        go_roundw
        case rel => exact ⟨j + 1, ls ++ [nm ++ 58 :: SQ], s ++ (nm ++ 58 :: (SQ ++ [10])), by omega, by simp, by go_num, HNx2, HSN, hsn, HQd, HBd⟩
        case measure => simp [intOf]; omega
    · have hjk : j = k := by omega
      have HLk : Hid (linesL fs names = some ls) := Lib.hid (by rw [← HL.out, hjk, HKN.out, List.take_length])
      have hlt' : decide (j < k) = false := by simpa using hlt
      obtain ⟨FV, hFV⟩ : ∃ x, fieldL fs bodySumL = x := ⟨_, rfl⟩
      have HFV := Lib.hid hFV
      have HFn : Hid (∀ W, Q w W → Calls Tryz.prog 40 #[.slice A n c, .string ⟨#[120, 45, 97, 109, 122, 45, 99, 111, 110, 116, 101, 110, 116, 45, 115, 104, 97, 50, 53, 54]⟩] W fun e w' => e = .returned (.tuple #[.string ⟨(FV.getD []).toArray⟩, .bool FV.isSome]) ∧ Q W w') := Lib.hid (fun W hq => by
        have := HFd.out bodySumL W hq (by decide)
        rw [hFV] at this; exact this)
      have b3 := HBj.out.c.2.2.2.1
      clear hjk hFV hlt
      go_wp2_with fail
      refine (HFn.out _ HQj.out).mono ?_
      rintro e wb ⟨rfl, hqb⟩
      have HQb := Lib.hid (HQj.out.trans hqb)
      clear hqb b3 HQj HBj
      rcases FV with _ | v
      · have HR : Hid (q = none) := Lib.hid (by rw [← HQ4.out, HLk.out, HFV.out])
        simp only [Option.getD_none, Option.isSome_none]
        go_wp2_with fail
        go_ret2
        rw [HR.out]
        exact ⟨rfl, HQb.out⟩
      · have hvl := HFM.out bodySumL v HFV.out
        have HR : Hid (q = some (s ++ 10 :: (J ++ 10 :: v))) := Lib.hid (by
          rw [← HQ4.out, HLk.out, HFV.out]
          have e1 : [m, E, C] ++ ls ++ [[], J, v] = ([m, E, C] ++ ls ++ [[], J]) ++ [v] := by simp
          show some (Lib.join ([m, E, C] ++ ls ++ [[], J, v]) [10]) = _
          rw [e1, join_end, endL_app, ← HSE.out]
          simp [endL])
        simp only [Option.getD_some, Option.isSome_some]
        go_wp2_with fail
        refine (HJ.out _ (HNM.out.q HQb.out)).mono ?_
        rintro e wd ⟨rfl, hqd⟩
        subst hqd
        go_wp2_with fail
        go_ret2
        rw [HR.out]
        refine ⟨?_, HQb.out⟩
        simp
end Go.Proofs.YtmmoenbmgcplkaaGreatDoor
set_option linter.unusedVariables false
set_option linter.unusedSimpArgs false
namespace Go.Proofs.YtmmoenbmgcplkaaGreatDoor
open Go Go.RowKit
end Go.Proofs.YtmmoenbmgcplkaaGreatDoor
set_option linter.unusedVariables false
namespace Go.Proofs.YtmmoenbmgcplkaaGreatDoor
open Go Go.RowKit
set_option maxRecDepth 100000 in
set_option maxHeartbeats 4000000 in
theorem Stamp17R (t : Int) (w : World) (h0 : 0 ≤ t) (h1 : t ≤ 253402300799) : Calls Tryz.prog 51 #[.int .i64 t] w fun e w' => e = .returned (.string ⟨(stampL t).toArray⟩) ∧ Q w w' := by
  obtain ⟨⟨y0, y1⟩, ⟨m0, m1⟩, ⟨d0, d1⟩, ⟨o0, o1⟩, ⟨i0, i1⟩, ⟨s0, s1⟩⟩ := parts_bd t h0 h1
  have hs : stampL t = d4 (civY (zI t)) ++ d2 (civM (zI t)) ++ d2 (civD (zI t)) ++ [84] ++ d2 (hoI t) ++ d2 (miI t) ++ d2 (seI t) ++ [90] := rfl
  have HS := Lib.hid hs
  clear hs
  go_enter Tryz.func51, Tryz.ntmps51
  go_wp2_with fail
  with_reducible refine (Apart_ok t _ h0 h1).mono ?_
  rintro e w1 ⟨rfl, hq1⟩
  go_upto_region 2 with (refine wpList_store_row rfl 133 (.tmp 3) (.tmp 5) (by rfl) w1.heap.size (whenV t) (by rfl) (by rfl) 133 _ (heap_alloc_new w1 _) (infoWT t) rfl (allWT t) ?_)
  obtain ⟨w3, hw3, hT3, hq3⟩ := whenT_start w1 _ t
  rw [← hw3]
  clear hw3
  simp only [Act.put]
  obtain ⟨g, hg⟩ : ∃ g, g = w1.heap.size := ⟨_, rfl⟩
  rw [← hg] at hT3 ⊢
  clear hg
  have HT := Lib.hid (fun (w' : World) (h : ∃ m : QW w3, w' = m.val) => (by obtain ⟨m, rfl⟩ := h; exact hT3.q m.le : WhenT w' g t))
  have c0 := hT3.c0
  have c1 := hT3.c1
  have c2 := hT3.c2
  have c3 := hT3.c3
  have c4 := hT3.c4
  have c5 := hT3.c5
  have c6 := hT3.c6
  have HQ := Lib.hid (hq1.trans hq3)
  clear hT3 hq1 hq3
  generalize civY (zI t) = Y at *
  generalize civM (zI t) = M at *
  generalize civD (zI t) = D at *
  generalize hoI t = o at *
  generalize miI t = i at *
  generalize seI t = s at *
  have y0' := fun m : QW w3 => m.cell c0
  have y1' := fun m : QW w3 => m.cell c1
  have y2' := fun m : QW w3 => m.cell c2
  have y4' := fun m : QW w3 => m.cell c4
  have y5' := fun m : QW w3 => m.cell c5
  have y6' := fun m : QW w3 => m.cell c6
  clear c0 c1 c2 c3 c4 c5 c6
  refine wp_region_q (by kernel_rfl) (by kernel_rfl) ?_
  (repeat (go_big_quiet_step ((go_at_call 91; exact calls_qs (digitsI _ _ _ (by omega) (by omega) (by decide) (by decide))))))
  refine wpQuiet_nil ?_
  rintro wx ⟨mx, hmx⟩
  have hqx : Q w wx := by rw [hmx]; exact HQ.out.trans mx.le
  have HQX := Lib.hid hqx
  clear hmx mx hqx y0' y1' y2' y4' y5' y6'
  go_wp2_with fail
  go_ret
  exact ⟨by rw [HS.out]; simp [← digL_2, ← digL_4], HQX.out⟩
end Go.Proofs.YtmmoenbmgcplkaaGreatDoor
set_option linter.unusedVariables false
set_option linter.unusedSimpArgs false
namespace Go.Proofs.YtmmoenbmgcplkaaGreatDoor
open Go Go.RowKit
theorem run_append_nil17 {P : Program} (w : World) (base : Nat) (t ty e : TypeId) (i : TypeInfo) (size : Nat) (ht : P.underlying t = some (.slice e)) (hi : P.info? e = some i)
    (v : Value) (n : Nat) (xs : List Value) (hown : w.ownsRow base e size v n xs) (c : Nat) : (Builtin.append_ #[t, t] ty #[v, .slice none 0 c]).run P w = .ok v w := by
  rcases hown.2 with ⟨rfl, rfl⟩ | ⟨g, cap, cur, rfl, _, _, hnc, _⟩
  · simp [Builtin.append_, run_underlying ht, sizeOf, typeInfo, hi, Builtin.lenOf, Builtin.firstCells]
  · simp [Builtin.append_, run_underlying ht, sizeOf, typeInfo, hi, Builtin.lenOf, Builtin.firstCells, hnc, storeCells]
theorem wpList_append_uz {ops : Array Oper} {rest : List Oper} {o : Oper} {a : Act} {R : Exit → Act → World → Prop} (hgd : o.guard = none) (s x : Operand)
    (ho : o.op = .call { callee := .builtin .append, args := #[s, x], argTypes := #[22, 22] })
    (w0 W : World) (v : Value) (ps qs : List PairD) (hs : a.eval s = v) (hown : OwnU w0 W v ps) (A : Option Addr) (m c : Nat) (hx : a.eval x = .slice A m c) (hp : PairsAt W A m qs) (hq : w0.heap.size ≤ W.heap.size) (hb : (ps.length + m) * 32 ≤ 140737488355328)
    (h : ∀ v' w', OwnU w0 w' v' (ps ++ qs) → W.grownBy w' v.ownBlock → wpList Tryz.prog ops R rest (a.put o.dst v') w') : wpList Tryz.prog ops R (o :: rest) a W := by
  rcases A with _ | ad
  · have hm : m = 0 := by
      rcases Nat.eq_zero_or_pos m with h0 | h0
      · exact h0
      · obtain ⟨g, off, e, _⟩ := hp.2 h0; cases e
    subst hm
    have hn : qs = [] := List.eq_nil_of_length_eq_zero hp.1.symm
    subst hn
    refine wpList_plain hgd fun K hK => ?_
    obtain ⟨i, hi, hz, hsz, hby⟩ := info_parts info_pair
    have hrun := run_append_nil17 (P := Tryz.prog) W w0.heap.size 22 o.type 37 i 2 Tryz.underlying22 hi v ps.length (cellsU ps) hown c
    unfold Oper.wp
    simp [execOp, ho, resolve, invoke, builtin, hs, hx, hrun, Result.andThen]
    exact hK _ _ (h v W (by rw [List.append_nil]; exact hown) (World.grownBy.refl W _))
  · exact wpList_append_us hgd s x ho w0 W v ps qs hs hown ad m c hp.1.symm hx hp.rowU hq hb h
structure RsAt (w W : World) (N : Nat) (r : ReqD) (v : Value) (u : UserD) : Prop where
  lo : w.heap.size ≤ N
  q : Q w W
  b : RB W N r v
  u : UB W (N + 1) u
  z : RB W (N + 2) zeroR (.slice none 0 0)
theorem RsAt.mv {w W W' : World} {N : Nat} {r : ReqD} {v : Value} {u : UserD} (h : RsAt w W N r v u) (hq : Q W W') : RsAt w W' N r v u := ⟨h.lo, h.q.trans hq, h.b.q hq, h.u.q hq, h.z.q hq⟩
structure RsX (w W : World) (N M : Nat) (r : ReqD) (v : Value) (u : UserD) (vx : Value) (w0 : World) (fs : List PairD) : Prop where
  at_ : RsAt w W N r v u
  lt : N + 2 < M
  x : RB W M r vx
  wq : Q w w0
  o : OwnU w0 W vx fs
  big : M < w0.heap.size
theorem RsX.mv {w W W' w0 : World} {N M : Nat} {r : ReqD} {v vx : Value} {u : UserD} {fs : List PairD} (h : RsX w W N M r v u vx w0 fs) (hq : Q W W') : RsX w W' N M r v u vx w0 fs := ⟨h.at_.mv hq, h.lt, h.x.q hq, h.wq, h.o.q hq, h.big⟩
theorem rsX_grow {w W w' w0 : World} {N M : Nat} {r : ReqD} {v : Value} {u : UserD} {A A2 : Option Addr} {n n2 c c2 : Nat} {fs fs2 : List PairD} (h : RsX w W N M r v u (.slice A n c) w0 fs) (o : Obj)
    (hg : (W.alloc o).grownBy w' (Value.slice A n c).ownBlock) (ho : OwnU w0 w' (.slice A2 n2 c2) fs2) (hs : w0.heap.size ≤ W.heap.size) :
    RsX w (w'.setCell ⟨M, 3, none⟩ (.slice A2 n2 c2)) N M r v u (.slice A2 n2 c2) w0 fs2 ∧ RB w' M r (.slice A n c) ∧ w0.heap.size ≤ w'.heap.size := by
  have hq1 : Q w w' := gb_q_own hg (h.at_.q.alloc _) (fun k hk => by have := (h.o.block hk).1; have := h.wq.size; omega)
  have ne : ∀ b, b < w0.heap.size → (Value.slice A n c).ownBlock ≠ some b := fun b hb e => by have := (h.o.block e).1; omega
  have hb := h.big
  have hl := h.lt
  have hx : RB w' M r (.slice A n c) := (h.x.q ((Q.refl W).alloc _)).gb hg (ne M hb)
  have h1 : RB w' N r v := (h.at_.b.q ((Q.refl W).alloc _)).gb hg (ne N (by omega))
  have h2 : RB w' (N + 2) zeroR (.slice none 0 0) := (h.at_.z.q ((Q.refl W).alloc _)).gb hg (ne _ (by omega))
  have h3 : UB w' (N + 1) u := by
    have h0 := h.at_.u.q ((Q.refl W).alloc o)
    unfold UB at h0 ⊢
    rw [hg.block _ (lt_of_heap h0) (fun e => ne (N + 1) (by omega) e.symm)]; exact h0
  have hlo := h.at_.lo
  refine ⟨⟨⟨hlo, Q.setNew hq1 (by show w.heap.size ≤ M; omega) _, h1.otherC (by omega) _, h3.otherC (by omega) _, h2.otherC (by omega) _⟩, hl, hx.set _, h.wq, ho.setC M 3 _ hb, hb⟩, hx, ?_⟩
  have := hg.size
  simp at this
  omega
def RSignPost (q : Option ReqD) (w : World) (e : Ending) (w' : World) : Prop :=
  match q with
  | none => e = .returned (.tuple #[.agg (reqV zeroR (.slice none 0 0)).toArray, .bool false]) ∧ Q w w'
  | some r' => ∃ v, e = .returned (.tuple #[.agg (reqV r' v).toArray, .bool true]) ∧ OwnU w w' v r'.fs ∧ Q w w'
set_option maxRecDepth 100000 in
set_option maxHeartbeats 8000000 in
theorem RSign_any (r : ReqD) (A : Option Addr) (n c : Nat) (u : UserD) (now : Int) (rg : List UInt8) (w : World) (hf : PairsAt w A n r.fs) (hc : n ≤ c) (hcap : c ≤ 9223372036854775807) (hok : SignOk r u rg) :
    Calls Tryz.prog 20 #[.agg (reqC r A n c).toArray, .agg (userC u).toArray, .int .i64 now, .string ⟨rg.toArray⟩] w (RSignPost (signQ r u now rg) w) := by
  obtain ⟨N, w1, w2, w3, hN, e1, hN1, e2, hN2, e3, b1, b2, b3, q1, q2, q3⟩ := sign_boxes w r (.slice A n c) u
  have HA : Hid (RsAt w w3 N r (.slice A n c) u) := Lib.hid ⟨by omega, q3, b1, b2, b3⟩
  have HF := Lib.hid hf
  have HOK := Lib.hid hok
  have hIdl : u.id.length ≤ 100000000 := by have := hok.id; omega
  have hRgl : rg.length ≤ 100000000 := by have := hok.rg; omega
  have hcn := hok.cnt
  have hn1 : n ≤ 10000000 := by rw [hf.1]; omega
  have HWd := Lib.hid (fun s W (h : s.length ≤ 100000000) => RWord_any s W h)
  have HRef : Hid (¬ okSign r u now rg → signQ r u now rg = none) := Lib.hid (fun h => by unfold signQ; rw [if_neg h])
  have HMn := Lib.hid (fun (t : List UInt8) W (hq : Q w W) (h1 : smL t = t) => RCount_any A n c r.fs t W (hf.q hq) hn1 hok.each h1)
  have bh := manyL_le r.fs hostL
  have bd := manyL_le r.fs datedL
  have bb := manyL_le r.fs bodySumL
  have ba := manyL_le r.fs authL
  have HSh := Lib.hid (fun W => Sum256R_any r.body W (by have := hok.body; omega))
  have HHx := Lib.hid (fun W => RHex_any (sha r.body) W (by rw [sha_length]; omega))
  obtain ⟨q, hq⟩ : ∃ q, signQ r u now rg = q := ⟨_, rfl⟩
  have HQ := Lib.hid hq
  rw [hq] at HRef ⊢
  clear hf hok hq b1 b2 b3 q1 q2 q3
  obtain ⟨name, id, sec⟩ := u
  obtain ⟨m, tg, minor, fs, body, close⟩ := r
  simp only [reqV, userC, zeroR] at e1 e2 e3 hIdl
  simp only at HMn bh bd bb ba hcn HSh HHx
  unfold reqC userC
  obtain ⟨TB, hTB⟩ : ∃ b, (decide (0 ≤ now) && decide (now ≤ 253402300799)) = b := ⟨_, rfl⟩
  have HIs := Lib.hid (fun W => IsR now W)
  rw [hTB] at HIs
  have HTB := Lib.hid hTB
  clear hTB
  have HWi := Lib.hid (fun W => HWd.out id W hIdl)
  have HWr := Lib.hid (fun W => HWd.out rg W hRgl)
  obtain ⟨WI, hWI⟩ : ∃ b, wordL id = b := ⟨_, rfl⟩
  obtain ⟨WR, hWR⟩ : ∃ b, wordL rg = b := ⟨_, rfl⟩
  rw [hWI] at HWi
  rw [hWR] at HWr
  have HWI := Lib.hid hWI
  have HWR := Lib.hid hWR
  clear hWI hWR
  obtain ⟨MH, hMH⟩ : ∃ x, manyL fs hostL = x := ⟨_, rfl⟩
  have HCMH : Hid (∀ W, Q w W → Calls Tryz.prog 50 #[.slice A n c, .string ⟨#[104, 111, 115, 116]⟩] W fun e w' => e = .returned (.int .i64 (MH : Nat)) ∧ Q W w') := Lib.hid (fun W hq => by
    have := HMn.out hostL W hq (by decide)
    rw [hMH] at this; exact this)
  have HMH := Lib.hid hMH
  rw [hMH] at bh
  clear hMH
  obtain ⟨MD, hMD⟩ : ∃ x, manyL fs datedL = x := ⟨_, rfl⟩
  have HCMD : Hid (∀ W, Q w W → Calls Tryz.prog 50 #[.slice A n c, .string ⟨#[120, 45, 97, 109, 122, 45, 100, 97, 116, 101]⟩] W fun e w' => e = .returned (.int .i64 (MD : Nat)) ∧ Q W w') := Lib.hid (fun W hq => by
    have := HMn.out datedL W hq (by decide)
    rw [hMD] at this; exact this)
  have HMD := Lib.hid hMD
  rw [hMD] at bd
  clear hMD
  obtain ⟨MB, hMB⟩ : ∃ x, manyL fs bodySumL = x := ⟨_, rfl⟩
  have HCMB : Hid (∀ W, Q w W → Calls Tryz.prog 50 #[.slice A n c, .string ⟨#[120, 45, 97, 109, 122, 45, 99, 111, 110, 116, 101, 110, 116, 45, 115, 104, 97, 50, 53, 54]⟩] W fun e w' => e = .returned (.int .i64 (MB : Nat)) ∧ Q W w') := Lib.hid (fun W hq => by
    have := HMn.out bodySumL W hq (by decide)
    rw [hMB] at this; exact this)
  have HMB := Lib.hid hMB
  rw [hMB] at bb
  clear hMB
  obtain ⟨MA, hMA⟩ : ∃ x, manyL fs authL = x := ⟨_, rfl⟩
  have HCMA : Hid (∀ W, Q w W → Calls Tryz.prog 50 #[.slice A n c, .string ⟨#[97, 117, 116, 104, 111, 114, 105, 122, 97, 116, 105, 111, 110]⟩] W fun e w' => e = .returned (.int .i64 (MA : Nat)) ∧ Q W w') := Lib.hid (fun W hq => by
    have := HMn.out authL W hq (by decide)
    rw [hMA] at this; exact this)
  have HMA := Lib.hid hMA
  rw [hMA] at ba
  clear hMA
  clear HMn HWd
  go_enter Tryz.func20, Tryz.ntmps20
  go_wp2_with fail
  refine (HIs.out _).mono ?_
  rintro e w4 ⟨rfl, rfl⟩
  obtain ⟨u0, u1, u2⟩ := HA.out.u.c
  clear e1 e2 e3 hN hN1 hN2
  go_wp2_with fail
  refine (HWi.out _).mono ?_
  rintro e w5 ⟨rfl, rfl⟩
  clear u0 u1 u2
  go_wp2_with fail
  refine (HWr.out _).mono ?_
  rintro e w6 ⟨rfl, rfl⟩
  clear HIs HWi HWr
  rcases TB with _ | _
  · skip
    have HNo : Hid (q = none) := Lib.hid (HRef.out (fun h => by have h1 := HTB.out; have h2 := h.1; unfold TimeOk at h2; simp [h2.1, h2.2] at h1))
    go_wp2_with (refine wpList_store_row rfl 24 _ _ rfl (N + 2) (reqV zeroR (.slice none 0 0)).toArray (by rfl) (by rfl) 24 _ HA.out.z (infoReqS _ _) rfl (reqV_one _ _ _ _) ?_)
    have hz9 := HA.out.z.row zeroR (.slice none 0 0)
    have hq9 : Q w (w6.setRow (N + 2) (reqV zeroR (.slice none 0 0)).toArray) := Q.setRow HA.out.q (by have := HA.out.lo; omega) _
    generalize w6.setRow (N + 2) (reqV zeroR (.slice none 0 0)).toArray = W9 at hz9 hq9 ⊢
    have HZ9 := Lib.hid hz9
    have HQ9 := Lib.hid hq9
    clear hz9 hq9
    go_wp2_with fail
    refine bodyPost_ret (v := .tuple #[.agg (reqV zeroR (.slice none 0 0)).toArray, .bool false]) ?_ rfl (by unfold RSignPost; rw [HNo.out]; exact ⟨rfl, HQ9.out⟩)
    exact results_cell_row2 rfl _ _ (N + 2) 24 _ (0, 0) _ _ (by rfl) (by rfl) HZ9.out Tryz.underlying24 rfl (infoReqS _ _)
  have HT : Hid (TimeOk now) := Lib.hid (by have := HTB.out; simp only [Bool.and_eq_true, decide_eq_true_eq] at this; exact this)
  rcases WI with _ | _
  · skip
    have HNo : Hid (q = none) := Lib.hid (HRef.out (fun h => by have h1 := HWI.out; have h2 := h.2.1; simp only at h2; rw [h1] at h2; cases h2))
    go_wp2_with (refine wpList_store_row rfl 24 _ _ rfl (N + 2) (reqV zeroR (.slice none 0 0)).toArray (by rfl) (by rfl) 24 _ HA.out.z (infoReqS _ _) rfl (reqV_one _ _ _ _) ?_)
    have hz9 := HA.out.z.row zeroR (.slice none 0 0)
    have hq9 : Q w (w6.setRow (N + 2) (reqV zeroR (.slice none 0 0)).toArray) := Q.setRow HA.out.q (by have := HA.out.lo; omega) _
    generalize w6.setRow (N + 2) (reqV zeroR (.slice none 0 0)).toArray = W9 at hz9 hq9 ⊢
    have HZ9 := Lib.hid hz9
    have HQ9 := Lib.hid hq9
    clear hz9 hq9
    go_wp2_with fail
    refine bodyPost_ret (v := .tuple #[.agg (reqV zeroR (.slice none 0 0)).toArray, .bool false]) ?_ rfl (by unfold RSignPost; rw [HNo.out]; exact ⟨rfl, HQ9.out⟩)
    exact results_cell_row2 rfl _ _ (N + 2) 24 _ (0, 0) _ _ (by rfl) (by rfl) HZ9.out Tryz.underlying24 rfl (infoReqS _ _)
  rcases WR with _ | _
  · skip
    have HNo : Hid (q = none) := Lib.hid (HRef.out (fun h => by have h1 := HWR.out; have h2 := h.2.2.1; rw [h1] at h2; cases h2))
    go_wp2_with (refine wpList_store_row rfl 24 _ _ rfl (N + 2) (reqV zeroR (.slice none 0 0)).toArray (by rfl) (by rfl) 24 _ HA.out.z (infoReqS _ _) rfl (reqV_one _ _ _ _) ?_)
    have hz9 := HA.out.z.row zeroR (.slice none 0 0)
    have hq9 : Q w (w6.setRow (N + 2) (reqV zeroR (.slice none 0 0)).toArray) := Q.setRow HA.out.q (by have := HA.out.lo; omega) _
    generalize w6.setRow (N + 2) (reqV zeroR (.slice none 0 0)).toArray = W9 at hz9 hq9 ⊢
    have HZ9 := Lib.hid hz9
    have HQ9 := Lib.hid hq9
    clear hz9 hq9
    go_wp2_with fail
    refine bodyPost_ret (v := .tuple #[.agg (reqV zeroR (.slice none 0 0)).toArray, .bool false]) ?_ rfl (by unfold RSignPost; rw [HNo.out]; exact ⟨rfl, HQ9.out⟩)
    exact results_cell_row2 rfl _ _ (N + 2) 24 _ (0, 0) _ _ (by rfl) (by rfl) HZ9.out Tryz.underlying24 rfl (infoReqS _ _)
  obtain ⟨b0, b1, b2, b3, b4, b5⟩ := HA.out.b.c
  simp only at b0 b1 b2 b4 b5
  go_wp2_with fail
  refine (HCMD.out _ HA.out.q).mono ?_
  rintro e v1 ⟨rfl, hq1⟩
  have HA1 := Lib.hid (HA.out.mv hq1)
  clear hq1 b0 b1 b2 b3 b4 b5 HA HCMD
  by_cases h0 : MD = 0
  rotate_left
  · have gMD : decide ((0 : Int) < ((MD : Nat) : Int)) = true := by simp; omega
    have HNo : Hid (q = none) := Lib.hid (HRef.out (fun h => by have h1 := HMD.out; have h2 := h.2.2.2.2; simp only at h2; omega))
    go_wp2_with (refine wpList_store_row rfl 24 _ _ rfl (N + 2) (reqV zeroR (.slice none 0 0)).toArray (by rfl) (by rfl) 24 _ HA1.out.z (infoReqS _ _) rfl (reqV_one _ _ _ _) ?_)
    have hz9 := HA1.out.z.row zeroR (.slice none 0 0)
    have hq9 : Q w (v1.setRow (N + 2) (reqV zeroR (.slice none 0 0)).toArray) := Q.setRow HA1.out.q (by have := HA1.out.lo; omega) _
    generalize v1.setRow (N + 2) (reqV zeroR (.slice none 0 0)).toArray = W9 at hz9 hq9 ⊢
    have HZ9 := Lib.hid hz9
    have HQ9 := Lib.hid hq9
    clear hz9 hq9
    go_wp2_with fail
    refine bodyPost_ret (v := .tuple #[.agg (reqV zeroR (.slice none 0 0)).toArray, .bool false]) ?_ rfl (by unfold RSignPost; rw [HNo.out]; exact ⟨rfl, HQ9.out⟩)
    exact results_cell_row2 rfl _ _ (N + 2) 24 _ (0, 0) _ _ (by rfl) (by rfl) HZ9.out Tryz.underlying24 rfl (infoReqS _ _)
  have gMD : decide ((0 : Int) < ((MD : Nat) : Int)) = false := by simp; omega
  have HZMD := Lib.hid h0
  clear h0
  obtain ⟨b0, b1, b2, b3, b4, b5⟩ := HA1.out.b.c
  simp only at b0 b1 b2 b4 b5
  go_wp2_with fail
  refine (HCMB.out _ HA1.out.q).mono ?_
  rintro e v2 ⟨rfl, hq2⟩
  have HA2 := Lib.hid (HA1.out.mv hq2)
  clear hq2 b0 b1 b2 b3 b4 b5 HA1 HCMB
  by_cases h0 : MB = 0
  rotate_left
  · have gMB : decide ((0 : Int) < ((MB : Nat) : Int)) = true := by simp; omega
    have HNo : Hid (q = none) := Lib.hid (HRef.out (fun h => by have h1 := HMB.out; have h2 := h.2.2.2.2; simp only at h2; omega))
    go_wp2_with (refine wpList_store_row rfl 24 _ _ rfl (N + 2) (reqV zeroR (.slice none 0 0)).toArray (by rfl) (by rfl) 24 _ HA2.out.z (infoReqS _ _) rfl (reqV_one _ _ _ _) ?_)
    have hz9 := HA2.out.z.row zeroR (.slice none 0 0)
    have hq9 : Q w (v2.setRow (N + 2) (reqV zeroR (.slice none 0 0)).toArray) := Q.setRow HA2.out.q (by have := HA2.out.lo; omega) _
    generalize v2.setRow (N + 2) (reqV zeroR (.slice none 0 0)).toArray = W9 at hz9 hq9 ⊢
    have HZ9 := Lib.hid hz9
    have HQ9 := Lib.hid hq9
    clear hz9 hq9
    go_wp2_with fail
    refine bodyPost_ret (v := .tuple #[.agg (reqV zeroR (.slice none 0 0)).toArray, .bool false]) ?_ rfl (by unfold RSignPost; rw [HNo.out]; exact ⟨rfl, HQ9.out⟩)
    exact results_cell_row2 rfl _ _ (N + 2) 24 _ (0, 0) _ _ (by rfl) (by rfl) HZ9.out Tryz.underlying24 rfl (infoReqS _ _)
  have gMB : decide ((0 : Int) < ((MB : Nat) : Int)) = false := by simp; omega
  have HZMB := Lib.hid h0
  clear h0
  obtain ⟨b0, b1, b2, b3, b4, b5⟩ := HA2.out.b.c
  simp only at b0 b1 b2 b4 b5
  go_wp2_with fail
  refine (HCMA.out _ HA2.out.q).mono ?_
  rintro e v3 ⟨rfl, hq3⟩
  have HA3 := Lib.hid (HA2.out.mv hq3)
  clear hq3 b0 b1 b2 b3 b4 b5 HA2 HCMA
  by_cases h0 : MA = 0
  rotate_left
  · have gMA : decide ((0 : Int) < ((MA : Nat) : Int)) = true := by simp; omega
    have HNo : Hid (q = none) := Lib.hid (HRef.out (fun h => by have h1 := HMA.out; have h2 := h.2.2.2.2; simp only at h2; omega))
    go_wp2_with (refine wpList_store_row rfl 24 _ _ rfl (N + 2) (reqV zeroR (.slice none 0 0)).toArray (by rfl) (by rfl) 24 _ HA3.out.z (infoReqS _ _) rfl (reqV_one _ _ _ _) ?_)
    have hz9 := HA3.out.z.row zeroR (.slice none 0 0)
    have hq9 : Q w (v3.setRow (N + 2) (reqV zeroR (.slice none 0 0)).toArray) := Q.setRow HA3.out.q (by have := HA3.out.lo; omega) _
    generalize v3.setRow (N + 2) (reqV zeroR (.slice none 0 0)).toArray = W9 at hz9 hq9 ⊢
    have HZ9 := Lib.hid hz9
    have HQ9 := Lib.hid hq9
    clear hz9 hq9
    go_wp2_with fail
    refine bodyPost_ret (v := .tuple #[.agg (reqV zeroR (.slice none 0 0)).toArray, .bool false]) ?_ rfl (by unfold RSignPost; rw [HNo.out]; exact ⟨rfl, HQ9.out⟩)
    exact results_cell_row2 rfl _ _ (N + 2) 24 _ (0, 0) _ _ (by rfl) (by rfl) HZ9.out Tryz.underlying24 rfl (infoReqS _ _)
  have gMA : decide ((0 : Int) < ((MA : Nat) : Int)) = false := by simp; omega
  have HZMA := Lib.hid h0
  clear h0
  obtain ⟨b0, b1, b2, b3, b4, b5⟩ := HA3.out.b.c
  simp only at b0 b1 b2 b4 b5
  go_wp2_with fail
  refine (HCMH.out _ HA3.out.q).mono ?_
  rintro e v4 ⟨rfl, hq4⟩
  have HA4 := Lib.hid (HA3.out.mv hq4)
  clear hq4 b0 b1 b2 b3 b4 b5 HA3 HCMH
  by_cases h0 : MH = 1
  rotate_left
  · have gMH : (((MH : Nat) : Int) != 1) = true := by simp only [bne_iff_ne, ne_eq]; omega
    have HNo : Hid (q = none) := Lib.hid (HRef.out (fun h => by have h1 := HMH.out; have h2 := h.2.2.2.1; simp only at h2; omega))
    go_wp2_with (refine wpList_store_row rfl 24 _ _ rfl (N + 2) (reqV zeroR (.slice none 0 0)).toArray (by rfl) (by rfl) 24 _ HA4.out.z (infoReqS _ _) rfl (reqV_one _ _ _ _) ?_)
    have hz9 := HA4.out.z.row zeroR (.slice none 0 0)
    have hq9 : Q w (v4.setRow (N + 2) (reqV zeroR (.slice none 0 0)).toArray) := Q.setRow HA4.out.q (by have := HA4.out.lo; omega) _
    generalize v4.setRow (N + 2) (reqV zeroR (.slice none 0 0)).toArray = W9 at hz9 hq9 ⊢
    have HZ9 := Lib.hid hz9
    have HQ9 := Lib.hid hq9
    clear hz9 hq9
    go_wp2_with fail
    refine bodyPost_ret (v := .tuple #[.agg (reqV zeroR (.slice none 0 0)).toArray, .bool false]) ?_ rfl (by unfold RSignPost; rw [HNo.out]; exact ⟨rfl, HQ9.out⟩)
    exact results_cell_row2 rfl _ _ (N + 2) 24 _ (0, 0) _ _ (by rfl) (by rfl) HZ9.out Tryz.underlying24 rfl (infoReqS _ _)
  have gMH : (((MH : Nat) : Int) != 1) = false := by simp only [bne_eq_false_iff_eq]; omega
  have HOKS : Hid (okSign ⟨m, tg, minor, fs, body, close⟩ ⟨name, id, sec⟩ now rg) := Lib.hid ⟨HT.out, HWI.out, HWR.out, HMH.out.trans h0, by have h1 := HMD.out; have h2 := HMB.out; have h3 := HMA.out; have h4 := HZMD.out; have h5 := HZMB.out; have h6 := HZMA.out; simp only; omega⟩
  have HSt := Lib.hid (fun W => Stamp17R now W HT.out.1 HT.out.2)
  obtain ⟨st, hst⟩ : ∃ st, stampL now = st := ⟨_, rfl⟩
  have hs16 : st.length = 16 := by rw [← hst]; rfl
  rw [hst] at HSt
  obtain ⟨HXL, hHX⟩ : ∃ x, hexL (sha body) = x := ⟨_, rfl⟩
  have hxl := hexsha_len body
  rw [hHX] at hxl HHx
  obtain ⟨FSq, hFS⟩ : ∃ x, fs ++ [(datedL, st), (bodySumL, HXL)] = x := ⟨_, rfl⟩
  have hdr : dressR ⟨m, tg, minor, fs, body, close⟩ now = ⟨m, tg, minor, FSq, body, close⟩ := by unfold dressR; simp only [hHX, hst, hFS]
  have hDok : ReqOk ⟨m, tg, minor, FSq, body, close⟩ := by
    have h1 := HOK.out.tg
    have h2 := HOK.out.m
    have h3 := HOK.out.hv
    refine ⟨h1, h2, ?_⟩
    show (FSq.map fun p => p.1.length + p.2.length + 3).sum ≤ 10000000
    rw [← hFS]
    simp only [List.map_append, List.sum_append, List.map_cons, List.map_nil, List.sum_cons, List.sum_nil, datedL, bodySumL, List.length_cons, List.length_nil, hxl]
    simp only at h3
    omega
  have hFSn : FSq.length = fs.length + 2 := by rw [← hFS]; simp
  obtain ⟨CQ, hCQ⟩ : ∃ x', canonQ ⟨m, tg, minor, FSq, body, close⟩ names3 = x' := ⟨_, rfl⟩
  obtain ⟨CV, hCV⟩ : ∃ x', CQ.getD [] = x' := ⟨_, rfl⟩
  obtain ⟨CB, hCB⟩ : ∃ x', CQ.isSome = x' := ⟨_, rfl⟩
  have HC : Hid (∀ (A' : Option Addr) (c' : Nat) (B : Option Addr) W, PairsAt W A' FSq.length FSq → FSq.length ≤ c' → c' ≤ 9223372036854775807 → NmAt W B 3 names3 → Calls Tryz.prog 14 #[.agg (reqC ⟨m, tg, minor, FSq, body, close⟩ A' FSq.length c').toArray, .slice B 3 3] W fun e w' => e = .returned (.tuple #[.string ⟨CV.toArray⟩, .bool CB]) ∧ Q W w') := Lib.hid (fun A' c' B W hp hcc hcap hn => by
    have := RCanonical_any ⟨m, tg, minor, FSq, body, close⟩ A' FSq.length c' B 3 3 names3 W hp hcc hcap hDok hn (by omega) (by omega) (by decide)
    rw [hCQ, hCV, hCB] at this; exact this)
  have hcl : CV.length ≤ 140737488355328 := by
    rw [← hCV]
    rcases CQ with _ | cq
    · simp
    · exact canonQ_len hDok (by decide) (by decide) hCQ
  have HSQ0 : Hid (CB = false → q = none) := Lib.hid (fun h => by
    rw [← HQ.out]; unfold signQ
    rw [if_pos HOKS.out]; simp only [hdr, hCQ]
    rcases CQ with _ | cq
    · rfl
    · rw [← hCB] at h; cases h)
  have HSQ : Hid (CB = true → q = some ⟨m, tg, minor, FSq ++ [(authL, valueL ⟨name, id, sec⟩ st rg CV)], body, close⟩) := Lib.hid (fun h => by
    rw [← HQ.out]; unfold signQ
    rw [if_pos HOKS.out]; simp only [hdr, hCQ, hst]
    rcases CQ with _ | cq
    · rw [← hCB] at h; cases h
    · rw [← hCV]; rfl)
  have HFS := Lib.hid hFS
  have HFSn := Lib.hid hFSn
  have HIL : Hid (id.length ≤ 10000000) := Lib.hid HOK.out.id
  have HRL : Hid (rg.length ≤ 10000000) := Lib.hid HOK.out.rg
  have HSL : Hid (sec.length ≤ 10000000) := Lib.hid HOK.out.sec
  clear hst hHX hFS hdr hDok hFSn hCQ hCV hCB h0 HZMD HZMB HZMA HMD HMB HMA HMH HOKS HT HRef HWI HWR HTB HOK bh bd bb ba
  unfold reqC at HC
  go_wp2_with fail
  refine (HSt.out _).mono ?_
  rintro e v5 ⟨rfl, hq5⟩
  have HA5 := Lib.hid (HA4.out.mv hq5)
  clear hq5 HA4 HSt gMD gMB gMA gMH
  obtain ⟨M, Y1, Y2, hM, hY1, hl1, hY2, hl2, hq2⟩ := rq_boxes v5 ⟨m, tg, minor, fs, body, close⟩ (.slice A n c)
  have hY1b : v5.alloc (.cells #[.string ⟨#[]⟩, .string ⟨#[]⟩, .int .i64 0, .slice none 0 0, .string ⟨#[]⟩, .bool false] 24) = Y1 := hY1
  have hNM : N + 2 < M := by rw [← hM]; exact HA5.out.z.lt
  obtain ⟨b0, b1, b2, b3, b4, b5⟩ := HA5.out.b.c
  simp only at b0 b1 b2 b4 b5
  go_upto_region 8 with (refine wpList_store_row rfl 24 _ _ rfl M (reqV ⟨m, tg, minor, fs, body, close⟩ (.slice A n c)).toArray (by rfl) (by rfl) 24 _ hl1 (infoReqS _ _) rfl (reqV_one _ _ _ _) ?_)
  try rw [hY2]
  have HX0 := Lib.hid hl2
  have HA6 := Lib.hid (HA5.out.mv hq2)
  have HNM := Lib.hid hNM
  clear hM hY1 hl1 hY2 hl2 hq2 hY1b HA5 b0 b1 b2 b3 b4 b5 hNM
  have f3 := HX0.out.f 3
  have c3 := HX0.out.c.2.2.2.1
  go_upto_region 9 with (fail)
  obtain ⟨Wn, hWn⟩ : ∃ W, Y2.setCell ⟨M, 3, none⟩ (.slice none 0 0) = W := ⟨_, rfl⟩
  have HX1 : Hid (RB Wn M ⟨m, tg, minor, fs, body, close⟩ (.slice none 0 0)) := Lib.hid (by rw [← hWn]; exact HX0.out.set _)
  have HA7 : Hid (RsAt w Wn N ⟨m, tg, minor, fs, body, close⟩ (.slice A n c) ⟨name, id, sec⟩) := Lib.hid (by
    rw [← hWn]
    exact ⟨HA6.out.lo, Q.setNew HA6.out.q (by have := HA6.out.lo; have := HNM.out; show w.heap.size ≤ M; omega) _, HA6.out.b.otherC (by have := HNM.out; omega) _, HA6.out.u.otherC (by have := HNM.out; omega) _, HA6.out.z.otherC (by have := HNM.out; omega) _⟩)
  rw [hWn]
  clear hWn HX0 HA6 f3 c3
  have c3 := HX1.out.c.2.2.2.1
  have f3 := HX1.out.f 3
  have b3 := HA7.out.b.c.2.2.2.1
  have hbz : (0 + n) * 32 ≤ 140737488355328 := by omega
  --REGION9
  go_wp2_with (at_builtin; refine wpList_append_uz rfl (.tmp 66) (.tmp 68) rfl Wn Wn (.slice none 0 0) [] fs (by rfl) (OwnU.nil _ _) A n c (by rfl) (HF.out.q HA7.out.q) (Nat.le_refl _) hbz ?_; intro va wa hoa hga; rw [List.nil_append] at hoa; obtain ⟨Aa, ca, rfl, hca, hpa⟩ := hoa.pairs; have HOa := Lib.hid hoa; have HQa : Hid (Q Wn wa) := Lib.hid (gb_q_own hga (Q.refl _) (fun k hk => by cases hk)); have c3 := (HX1.out.q HQa.out).c.2.2.2.1; have f3 := (HX1.out.q HQa.out).f 3; clear hoa hga hpa hca)
  try simp only [Act.put]
  obtain ⟨Wb, hWb⟩ : ∃ W, wa.setCell ⟨M, 3, none⟩ (.slice Aa fs.length ca) = W := ⟨_, rfl⟩
  have HXX : Hid (RsX w Wb N M ⟨m, tg, minor, fs, body, close⟩ (.slice A n c) ⟨name, id, sec⟩ (.slice Aa fs.length ca) Wn fs) := Lib.hid (by
    have hM1 := HX1.out.lt
    have h0 := HA7.out.lo
    have h1 := HNM.out
    rw [← hWb]
    refine ⟨⟨HA7.out.lo, Q.setNew (HA7.out.q.trans HQa.out) (by show w.heap.size ≤ M; omega) _, (HA7.out.b.q HQa.out).otherC (by omega) _, (HA7.out.u.q HQa.out).otherC (by omega) _, (HA7.out.z.q HQa.out).otherC (by omega) _⟩, h1, (HX1.out.q HQa.out).set _, HA7.out.q, HOa.out.setC M 3 _ hM1, hM1⟩)
  have HSB : Hid (Wn.heap.size ≤ Wb.heap.size) := Lib.hid (by rw [← hWb]; have := HQa.out.size; simp [World.setCell]; exact this)
  rw [hWb]
  clear hWb HX1 HA7 HNM HOa HQa c3 f3 b3 hbz
  have hszb := HSB.out
  --REGION10
  have kc3 : ∀ mm : QW Wb, mm.val.cell? ⟨M, 3, none⟩ = some (.slice Aa fs.length ca) := fun mm => mm.cell HXX.out.x.c.2.2.2.1
  have kc4 : ∀ mm : QW Wb, mm.val.cell? ⟨N, 4, none⟩ = some (.string ⟨body.toArray⟩) := fun mm => mm.cell HXX.out.at_.b.c.2.2.2.2.1
  refine wp_region_noPanic ?_
  refine wp_fin [] [([0, 1, 2, 3, 4, 5], [6, 7]), ([8], [9])] [10, 11, 12] (by kernel_rfl) (by kernel_rfl) (fun _ _ _ _ _ h => h) ?_
  simp only [wpFin, wpListK, List.map_cons, List.map_nil, Array.getD_eq_getD_getElem?, List.getElem?_toArray, List.getElem?_cons_succ, List.getElem?_cons_zero, Option.getD_some]
  refine wpQuiet_nil ?_
  (repeat (go_big_quiet_step (fail)))
  refine wpQuiet_nil ?_
  obtain ⟨Wd, hWd⟩ : ∃ W, Wb.drew = W := ⟨_, rfl⟩
  have hqd : Q Wb Wd := by rw [← hWd]; exact (Q.refl Wb).drew
  rw [hWd]
  clear hWd kc3 kc4
  intro K hK
  go_wp2_with fail
  refine (HSh.out _).mono ?_
  rintro e wf ⟨rfl, hqf⟩
  have HQf := Lib.hid (hqd.trans hqf)
  clear hqd hqf
  go_wp2_with fail
  refine hK.out _ _ ⟨⟨_, HQf.out⟩, rfl⟩ ?_
  clear hK K
  intro K hK
  go_wp2_with fail
  refine (HHx.out _).mono ?_
  rintro e wg ⟨rfl, hqg⟩
  have HQg := Lib.hid (HQf.out.trans hqg)
  clear HQf hqg
  go_wp2_with fail
  refine hK.out _ _ ⟨⟨_, HQg.out⟩, rfl⟩ ?_
  clear hK K
  (repeat (go_big_quiet_step (fail)))
  refine wpQuiet_nil ?_
  have HXg := Lib.hid (HXX.out.mv HQg.out)
  have hszg : Wn.heap.size ≤ wg.heap.size := Nat.le_trans hszb HQg.out.size
  clear HXX hszb
  have hbf : (fs.length + 2) * 32 ≤ 140737488355328 := by have := HFSn.out; omega
  intro K hK
  iterate 3 go_step
  refine hK.out _ _ ⟨⟨_, HQg.out.alloc _⟩, rfl⟩ ?_
  clear hK K HQg
  have HPR : Hid (PairsAt (wg.alloc (.cells (cellsU [(datedL, st), (bodySumL, HXL)]).toArray 37)) (some ⟨wg.heap.size, 0, none⟩) 2 [(datedL, st), (bodySumL, HXL)]) := Lib.hid (PairsAt.lit _ _ rfl)
  refine wpList_append_us rfl (.tmp 72) (.tmp 80) rfl Wn (wg.alloc (.cells (cellsU [(datedL, st), (bodySumL, HXL)]).toArray 37)) (.slice Aa fs.length ca) fs [(datedL, st), (bodySumL, HXL)] (by rfl) (HXg.out.o.q ((Q.refl wg).alloc _)) ⟨wg.heap.size, 0, none⟩ 2 2 rfl (by rfl) HPR.out.rowU (Nat.le_trans hszg ((Q.refl wg).alloc _).size) hbf ?_
  intro v5 w5 ho5 hg5
  rw [HFS.out] at ho5
  obtain ⟨A5, c5, rfl, hc5, hp5⟩ := ho5.pairs
  have hcap5 := ho5.capb'
  have HX5 : Hid (RsX w (w5.setCell ⟨M, 3, none⟩ (.slice A5 FSq.length c5)) N M ⟨m, tg, minor, fs, body, close⟩ (.slice A n c) ⟨name, id, sec⟩ (.slice A5 FSq.length c5) Wn FSq ∧ RB w5 M ⟨m, tg, minor, fs, body, close⟩ (.slice Aa fs.length ca) ∧ Wn.heap.size ≤ w5.heap.size) := Lib.hid (rsX_grow HXg.out _ hg5 ho5 hszg)
  have c3 := HX5.out.2.1.c.2.2.2.1
  have f3 := HX5.out.2.1.f 3
  clear ho5 hg5 hp5 HXg HPR hszg hbf
  repeat go_step
  refine NoPanic.normal ?_
  obtain ⟨W6, hW6⟩ : ∃ W, w5.setCell ⟨M, 3, none⟩ (.slice A5 FSq.length c5) = W := ⟨_, rfl⟩
  have hsz6 : Wn.heap.size ≤ W6.heap.size := by rw [← hW6]; have := HX5.out.2.2; simp [World.setCell]; exact this
  rw [hW6]
  have HX6 : Hid (RsX w W6 N M ⟨m, tg, minor, fs, body, close⟩ (.slice A n c) ⟨name, id, sec⟩ (.slice A5 FSq.length c5) Wn FSq) := Lib.hid (by rw [← hW6]; exact HX5.out.1)
  clear hW6 HX5 c3 f3
  --REGION11
  go_upto_region 12 with (fail)
  obtain ⟨Wl, hWl⟩ : ∃ W, W6.alloc (.cells (names3.map strV).toArray 9) = W := ⟨_, rfl⟩
  have hWlb : W6.alloc (.cells #[.string ⟨#[104, 111, 115, 116]⟩, .string ⟨#[120, 45, 97, 109, 122, 45, 99, 111, 110, 116, 101, 110, 116, 45, 115, 104, 97, 50, 53, 54]⟩, .string ⟨#[120, 45, 97, 109, 122, 45, 100, 97, 116, 101]⟩] 9) = Wl := hWl
  have hql : Q W6 Wl := by rw [← hWl]; exact (Q.refl W6).alloc _
  have HNM : Hid (NmAt Wl (some ⟨W6.heap.size, 0, none⟩) 3 names3) := Lib.hid (by rw [← hWl]; exact NmAt.lit names3 W6 _)
  have HXl := Lib.hid (HX6.out.mv hql)
  have hszl : Wn.heap.size ≤ Wl.heap.size := Nat.le_trans hsz6 hql.size
  obtain ⟨b0, b1, b2, b3, b4, b5⟩ := HXl.out.x.c
  simp only at b0 b1 b2 b3 b4 b5
  rw [hWlb]
  obtain ⟨G6, hG6⟩ : ∃ g, W6.heap.size = g := ⟨_, rfl⟩
  rw [hG6] at HNM ⊢
  clear hWl hWlb hql HX6 hG6 hsz6
  go_wp2_with fail
  refine (HC.out A5 c5 _ Wl HXl.out.o.pa hc5 hcap5 HNM.out).mono ?_
  rintro e wm ⟨rfl, hqm⟩
  have HXm := Lib.hid (HXl.out.mv hqm)
  have HNMm := Lib.hid (HNM.out.q hqm)
  have hszm : Wn.heap.size ≤ wm.heap.size := Nat.le_trans hszl hqm.size
  clear hqm HXl HNM hszl b0 b1 b2 b3 b4 b5 HC
  rcases CB with _ | _
  · have HA9 := Lib.hid HXm.out.at_
    have HNo : Hid (q = none) := Lib.hid (HSQ0.out rfl)
    go_wp2_with (refine wpList_store_row rfl 24 _ _ rfl (N + 2) (reqV zeroR (.slice none 0 0)).toArray (by rfl) (by rfl) 24 _ HA9.out.z (infoReqS _ _) rfl (reqV_one _ _ _ _) ?_)
    have hz9 := HA9.out.z.row zeroR (.slice none 0 0)
    have hq9 : Q w (wm.setRow (N + 2) (reqV zeroR (.slice none 0 0)).toArray) := Q.setRow HA9.out.q (by have := HA9.out.lo; omega) _
    generalize wm.setRow (N + 2) (reqV zeroR (.slice none 0 0)).toArray = W9 at hz9 hq9 ⊢
    have HZ9 := Lib.hid hz9
    have HQ9 := Lib.hid hq9
    clear hz9 hq9
    go_wp2_with fail
    refine bodyPost_ret (v := .tuple #[.agg (reqV zeroR (.slice none 0 0)).toArray, .bool false]) ?_ rfl (by unfold RSignPost; rw [HNo.out]; exact ⟨rfl, HQ9.out⟩)
    exact results_cell_row2 rfl _ _ (N + 2) 24 _ (0, 0) _ _ (by rfl) (by rfl) HZ9.out Tryz.underlying24 rfl (infoReqS _ _)
  have HSQ1 := Lib.hid (HSQ.out rfl)
  clear HSQ HSQ0
  go_upto_region 15 with (fail)
  have HSc := Lib.hid (fun W => (RScope_any st rg W (by omega) hRgl).mono fun e w' (h : _ ∧ w' = W) => (⟨h.1, by rw [h.2]; exact Q.refl _⟩ : _ ∧ Q W w'))
  have HJo := Lib.hid (fun W (h : NmAt W (some ⟨G6, 0, none⟩) 3 names3) => (RJoined_any _ 3 3 names3 59 W h (by decide)).mono fun e w' (h : _ ∧ w' = W) => (⟨h.1, by rw [h.2]; exact Q.refl _⟩ : _ ∧ Q W w'))
  have HSg := Lib.hid (fun W => RSignature_any sec st rg CV W (by have := HSL.out; omega) (by omega) hRgl hcl)
  have hscl := scopeL_len st rg
  have hjl : (Lib.join names3 [59]).length ≤ 100 := by decide
  have hsgl : (sigL sec st rg CV).length = 64 := by unfold sigL; rw [hexL_length, mac_length]
  obtain ⟨VV, hVV⟩ : ∃ V, valueL ⟨name, id, sec⟩ st rg CV = V := ⟨_, rfl⟩
  rw [hVV] at HSQ1
  unfold valueL at hVV
  simp only at hVV
  generalize sigL sec st rg CV = SG at HSg hsgl hVV
  generalize Lib.join names3 [59] = J3 at HJo hjl hVV
  generalize scopeL st rg = SC at HSc hscl hVV
  simp only [credL, shdL, sgnL, List.append_assoc, List.cons_append, List.nil_append] at hVV
  have hVl : VV.length ≤ 30000000 := by
    rw [← hVV]; simp only [List.length_cons, List.length_append]; have := HIL.out; have := HRL.out; omega
  have HVV := Lib.hid hVV
  clear hVV
  have ku1 : ∀ mm : QW wm, mm.val.cell? ⟨N + 1, 1, none⟩ = some (.string ⟨id.toArray⟩) := fun mm => mm.cell HXm.out.at_.u.c.2.1
  have ku2 : ∀ mm : QW wm, mm.val.cell? ⟨N + 1, 2, none⟩ = some (.string ⟨sec.toArray⟩) := fun mm => mm.cell HXm.out.at_.u.c.2.2
  refine wp_region_q (by kernel_rfl) (by kernel_rfl) ?_
  (repeat (go_big_quiet_step (first | (go_at_call 43; exact calls_q (HSc.out _)) | (go_at_call 42; exact calls_q (HJo.out _ (HNMm.out.q (QW.le _)))) | (go_at_call 52; exact calls_q (HSg.out _)))))
  refine wpQuiet_nil ?_
  rintro wy ⟨my, hmy⟩
  have hqy : Q wm wy := by rw [hmy]; exact my.le
  clear my hmy ku1 ku2
  rw [HVV.out]
  have HXy := Lib.hid (HXm.out.mv hqy)
  have hszy : Wn.heap.size ≤ wy.heap.size := Nat.le_trans hszm hqy.size
  have hFb : (FSq.length + 1) * 32 ≤ 140737488355328 := by have := HFSn.out; omega
  have c3 := HXy.out.x.c.2.2.2.1
  clear hqy HXm HNMm HJo HSg HSc HVV hscl hjl hsgl hszm
  go_upto_region 16 with (fail)
  iterate 16 go_step
  have HPR : Hid (PairsAt (wy.alloc (.cells (cellsU [(authL, VV)]).toArray 37)) (some ⟨wy.heap.size, 0, none⟩) 1 [(authL, VV)]) := Lib.hid (PairsAt.lit _ _ rfl)
  refine wpList_append_us rfl (.tmp 114) (.tmp 117) rfl Wn (wy.alloc (.cells (cellsU [(authL, VV)]).toArray 37)) (.slice A5 FSq.length c5) FSq [(authL, VV)] (by rfl) (HXy.out.o.q ((Q.refl wy).alloc _)) ⟨wy.heap.size, 0, none⟩ 1 1 rfl (by rfl) HPR.out.rowU (Nat.le_trans hszy ((Q.refl wy).alloc _).size) hFb ?_
  intro v7 w7 ho7 hg7
  obtain ⟨A7, c7, rfl, hc7, hp7⟩ := ho7.pairs
  have HX7 : Hid (RsX w (w7.setCell ⟨M, 3, none⟩ (.slice A7 (FSq ++ [(authL, VV)]).length c7)) N M ⟨m, tg, minor, fs, body, close⟩ (.slice A n c) ⟨name, id, sec⟩ (.slice A7 (FSq ++ [(authL, VV)]).length c7) Wn (FSq ++ [(authL, VV)]) ∧ RB w7 M ⟨m, tg, minor, fs, body, close⟩ (.slice A5 FSq.length c5) ∧ Wn.heap.size ≤ w7.heap.size) := Lib.hid (rsX_grow HXy.out _ hg7 ho7 hszy)
  obtain ⟨L7, hL7⟩ : ∃ L, (FSq ++ [(authL, VV)]).length = L := ⟨_, rfl⟩
  rw [hL7] at HX7 ⊢
  have c3 := HX7.out.2.1.c.2.2.2.1
  have f3 := HX7.out.2.1.f 3
  clear ho7 hg7 hp7 hc7 HXy HPR hszy hFb hL7
  iterate 6 go_step
  go_upto_region 17 with (fail)
  obtain ⟨W8, hW8⟩ : ∃ W, w7.setCell ⟨M, 3, none⟩ (.slice A7 L7 c7) = W := ⟨_, rfl⟩
  rw [hW8] at HX7 ⊢
  have HX8 := Lib.hid HX7.out.1
  clear hW8 HX7 c3 f3
  obtain ⟨b0, b1, b2, b3, b4, b5⟩ := HX8.out.x.c
  simp only at b0 b1 b2 b4 b5
  iterate 4 go_step
  refine wpList_store_row rfl 24 _ _ rfl (N + 2) (reqV ⟨m, tg, minor, fs, body, close⟩ (.slice A7 L7 c7)).toArray (by rfl) (by rfl) 24 _ HX8.out.at_.z (infoReqS _ _) rfl (reqV_one _ _ _ _) ?_
  have hz2 := HX8.out.at_.z.row ⟨m, tg, minor, FSq ++ [(authL, VV)], body, close⟩ (.slice A7 L7 c7)
  have hq2 : Q w (W8.setRow (N + 2) (reqV ⟨m, tg, minor, fs, body, close⟩ (.slice A7 L7 c7)).toArray) := Q.setRow HX8.out.at_.q (by have := HX8.out.at_.lo; omega) _
  have ho2 : OwnU w (W8.setRow (N + 2) (reqV ⟨m, tg, minor, fs, body, close⟩ (.slice A7 L7 c7)).toArray) (.slice A7 L7 c7) (FSq ++ [(authL, VV)]) := (HX8.out.o.setR (N + 2) _ (by have := HX8.out.lt; have := HX8.out.big; omega)).low HX8.out.wq.size
  have er : reqV ⟨m, tg, minor, FSq ++ [(authL, VV)], body, close⟩ (.slice A7 L7 c7) = reqV ⟨m, tg, minor, fs, body, close⟩ (.slice A7 L7 c7) := rfl
  rw [er] at hz2
  generalize W8.setRow (N + 2) (reqV ⟨m, tg, minor, fs, body, close⟩ (.slice A7 L7 c7)).toArray = W9 at hz2 hq2 ho2 ⊢
  have HZ9 := Lib.hid hz2
  have HQ9 := Lib.hid hq2
  have HO9 := Lib.hid ho2
  clear hz2 hq2 ho2 b0 b1 b2 b3 b4 b5
  go_wp2_with fail
  refine bodyPost_ret (v := .tuple #[.agg (reqV ⟨m, tg, minor, FSq ++ [(authL, VV)], body, close⟩ (.slice A7 L7 c7)).toArray, .bool true]) ?_ rfl (by unfold RSignPost; rw [HSQ1.out]; exact ⟨_, rfl, HO9.out, HQ9.out⟩)
  exact results_cell_row2 rfl _ _ (N + 2) 24 _ (0, 0) _ _ (by rfl) (by rfl) HZ9.out Tryz.underlying24 rfl (infoReqS _ _)
  end Go.Proofs.YtmmoenbmgcplkaaGreatDoor
