/- Texts of this proof, laid into one: LaD, LaE, LaF. -/
import Derived.Test.YtlhhiiemojhjdaaGreatDoorMt10
set_option linter.unusedVariables false
set_option linter.unusedSimpArgs false
namespace Go.Proofs.YtlhhiiemojhjdaaGreatDoor
open Go Go.RowKit
theorem ScB.at1 {w : World} {b : Nat} {s : Txt} {p : Nat} {c a : Int} (h : ScB w b s p c a) : ScB (w.setCell ⟨b, 1, none⟩ (.int .i64 ((p : Int) + 1))) b s (p + 1) c a := by
  have := h.set (p + 1); simpa using this
theorem tail_drop' (s : Txt) (p : Nat) : (s.drop p).tail = s.drop (p + 1) := by rw [List.tail_drop]
theorem hd_is {s : Txt} {p : Nat} {x : UInt8} {m : Bool} (hx : x ≠ 0) (h : isB s p x = m) : (hdB (s.drop p) = x) = (m = true) := by
  rw [is_hd hx] at h
  subst h
  simp
theorem hd_ite {s : Txt} {p : Nat} {x : UInt8} {m : Bool} (hx : x ≠ 0) (h : isB s p x = m) {α : Type} (u v : α) : (if hdB (s.drop p) = x then u else v) = if m = true then u else v := by simp only [hd_is hx h]
theorem hd_ite2 {s : Txt} {p : Nat} {x y : UInt8} {m k : Bool} (hx : x ≠ 0) (hy : y ≠ 0) (h : isB s p x = m) (h2 : isB s p y = k) {α : Type} (u v : α) : (if hdB (s.drop p) = x ∨ hdB (s.drop p) = y then u else v) = if (m || k) = true then u else v := by simp only [hd_is hx h, hd_is hy h2, Bool.or_eq_true]
theorem is_lt {s : Txt} {p : Nat} {x : UInt8} (h : isB s p x = true) : p < s.length := ((is_iff s p x).1 h).1
def SgSt (b : Nat) (s : Txt) (p : Nat) (a : Int) (w wx : World) : Prop := GX [b] w wx ∧ ∃ q, q ≤ s.length ∧ minusR (s.drop p) = s.drop q ∧ ScB wx b s q 0 a
theorem UnR.grow {b : Nat} {s : Txt} {a : Int} {r : PR Unit} {w w1 w2 : World} (h : UnR b s a r w1 w2) (hg : GX [b] w w1) : UnR b s a r w w2 := ⟨hg.trans h.1, h.2⟩
theorem UnR.q {b : Nat} {s : Txt} {a : Int} {r : PR Unit} {w w1 w2 : World} (h : UnR b s a r w w1) (hq : Q w1 w2) : UnR b s a r w w2 := by
  refine ⟨h.1.trans (GX.q hq), ?_⟩
  have h2 := h.2
  cases r with
  | ok _ t => obtain ⟨q, h3, h4, h5⟩ := h2; exact ⟨q, h3, h4, h5.q hq⟩
  | bad c n => obtain ⟨q, h3, h4, h5⟩ := h2; exact ⟨q, h3, h4, h5.q hq⟩
theorem UnR.st {b : Nat} {s : Txt} {a : Int} {r : PR Unit} {w wx : World} (h : UnR b s a r w wx) : ∃ (q : Nat) (c a' : Int), q ≤ s.length ∧ ScB wx b s q c a' ∧ GX [b] w wx ∧ ((c = 0 ∧ a' = a ∧ r = .ok () (s.drop q)) ∨ (c ≠ 0 ∧ ∃ c0 n, r = .bad c0 n)) := by
  obtain ⟨hg, h2⟩ := h
  cases r with
  | ok u t => obtain ⟨q, h3, h4, h5⟩ := h2; exact ⟨q, 0, a, h3, h5, hg, .inl ⟨rfl, rfl, by rw [h4]⟩⟩
  | bad c n => obtain ⟨q, h3, h4, h5⟩ := h2; exact ⟨q, _, _, h3, h5, hg, .inr ⟨by omega, c, n, rfl⟩⟩
theorem UnR.ok {b : Nat} {s : Txt} {a : Int} {t : Txt} {w wx : World} {q : Nat} (hg : GX [b] w wx) (hq : q ≤ s.length) (ht : s.drop q = t) (hs : ScB wx b s q 0 a) : UnR b s a (.ok () t) w wx := ⟨hg, q, hq, ht, hs⟩
theorem isn_is (b : Nat) (s : Txt) (p : Nat) (c a : Int) (x : UInt8) (w : World) (h : ScB w b s p c a) (r : Bool) (hr : isB s p x = r) :
    Calls Tryz.prog 51 #[.pointer (some ⟨b, 0, none⟩), .int .u8 x.toNat] w fun e w' => e = .returned (.bool r) ∧ Q w w' := by
  have := is_any b s p c a x w h; rw [hr] at this; exact this
set_option maxRecDepth 100000 in
set_option maxHeartbeats 8000000 in
theorem rnumber_any (b : Nat) (s : Txt) (p : Nat) (a : Int) (w : World) (h : ScB w b s p 0 a) (hp : p ≤ s.length) (hl : s.length ≤ 1000000000) :
    Calls Tryz.prog 40 #[.pointer (some ⟨b, 0, none⟩)] w (UnP b s a (numR (s.drop p)) w) := by
  obtain ⟨r, hr⟩ : ∃ r, numR (s.drop p) = r := ⟨_, rfl⟩
  have HR := Lib.hid hr
  rw [hr]
  clear hr
  have H := Lib.hid h
  have HL := Lib.hid hl
  obtain ⟨m, hm⟩ : ∃ m, isB s p 45 = m := ⟨_, rfl⟩
  have HIs := Lib.hid (isn_is b s p 0 a 45 w h m hm)
  have HM := Lib.hid hm
  clear h hm
  go_enter Tryz.func40, Tryz.ntmps40
  go_wp2_with fail
  refine HIs.out.mono ?_
  rintro e w1 ⟨rfl, hq1⟩
  have HQ1 := Lib.hid hq1
  have H1 := Lib.hid (H.out.q hq1)
  clear hq1 HIs
  obtain ⟨-, y1, -, -⟩ := H1.out.c
  have f1 := H1.out.f 1
  have HMi : Hid (minusR (s.drop p) = s.drop (if m = true then p + 1 else p)) := Lib.hid (by
    unfold minusR
    rw [hd_ite (by decide) HM.out, tail_drop']
    cases m <;> rfl)
  go_upto_if 11 with (fail)
  go_cut [] (fun wx => Hid (SgSt b s p a w wx))
  case first =>
    cases m with
    | true =>
      have HX : Hid (SgSt b s p a w (w1.setCell ⟨b, 1, none⟩ (.int .i64 ((p : Int) + 1)))) := Lib.hid ⟨(GX.q HQ1.out).set (by simp) _ _, p + 1, by have := is_lt HM.out; omega, by rw [HMi.out]; rfl, H1.out.at1⟩
      go_wp2_with fail
      go_meet
      exact HX
    | false =>
      have HX : Hid (SgSt b s p a w w1) := Lib.hid ⟨GX.q HQ1.out, p, hp, by rw [HMi.out]; rfl, H1.out⟩
      go_wp2_with fail
      go_meet
      exact HX
  case rest =>
    rename World => w2
    obtain ⟨hg2, q, hql, hmq, hs2⟩ := hcut.out
    clear hcut y1 f1 H1 HQ1 HM HMi
    obtain ⟨m, hm⟩ : ∃ m, isB s q 48 = m := ⟨_, rfl⟩
    have HIs := Lib.hid (isn_is b s q 0 a 48 w2 hs2 m hm)
    have H2 := Lib.hid (⟨hg2, hmq, hs2, hm⟩ : _ ∧ _ ∧ _ ∧ _)
    clear hg2 hmq hs2 hm
    go_wp2_with fail
    refine HIs.out.mono ?_
    rintro e w3 ⟨rfl, hq3⟩
    have H3 := Lib.hid (H2.out.2.2.1.q hq3)
    have HG3 := Lib.hid (H2.out.1.trans (GX.q hq3))
    clear hq3 HIs
    obtain ⟨-, y1, -, -⟩ := H3.out.c
    have f1 := H3.out.f 1
    have HIn : Hid (intR (minusR (s.drop p)) = if m = true then .ok () (s.drop (q + 1)) else digR (s.drop q)) := Lib.hid (by
      rw [H2.out.2.1]; unfold intR
      rw [hd_ite (by decide) H2.out.2.2.2, tail_drop'])
    obtain ⟨r1, hr1⟩ : ∃ r1, intR (minusR (s.drop p)) = r1 := ⟨_, rfl⟩
    have HR1 := Lib.hid hr1
    rw [hr1] at HIn
    clear hr1
    go_upto_if 21 with (fail)
    go_cut [] (fun wx => Hid (UnR b s a r1 w wx))
    case first =>
      cases m with
      | true =>
        have HX : Hid (UnR b s a r1 w (w3.setCell ⟨b, 1, none⟩ (.int .i64 ((q : Int) + 1)))) := Lib.hid (by
          rw [HIn.out, if_pos rfl]
          exact UnR.ok (HG3.out.set (by simp) _ _) (by have := is_lt H2.out.2.2.2; omega) rfl H3.out.at1)
        go_wp2_with fail
        go_meet
        exact HX
      | false =>
        have HDg := Lib.hid (rdigits_any b s q a w3 H3.out hql HL.out)
        clear y1 f1
        go_wp2_with fail
        refine HDg.out.mono ?_
        rintro e w4 ⟨rfl, hu⟩
        have HX : Hid (UnR b s a r1 w w4) := Lib.hid (by
          have e : r1 = digR (s.drop q) := by rw [HIn.out]; exact if_neg (by decide)
          rw [e]
          exact hu.grow HG3.out)
        clear hu HDg
        go_wp2_with fail
        go_meet
        exact HX
    case rest =>
      rename World => w4
      have HU1 := hcut
      clear hcut y1 f1 H3 HG3 H2 HIn
      have HRe : Hid (r = r1.bind fun _ l2 => (fracR l2).bind fun _ l3 => expR l3) := Lib.hid (by rw [← HR.out]; unfold numR; rw [HR1.out])
      clear HR HR1
      obtain ⟨q4, c4, a4, hq4, hs4, hg4, hc4⟩ := HU1.out.st
      rcases hc4 with ⟨rfl, rfl, hr4⟩ | ⟨hc4, c0, n0, hr4⟩
      case' inr =>
        have hcd : (c4 == 0) = false := by simpa using hc4
        have e4 : r = .bad c0 n0 := by rw [HRe.out, hr4]; rfl
        have HX4 : Hid (∀ wx, Q w4 wx → UnP b s a r w (.returned (.tuple #[])) wx) := Lib.hid (fun wx hq => ⟨rfl, by
          have := HU1.out.q hq
          rw [hr4] at this; rw [e4]; exact this⟩)
        have HSq : Hid (∀ wx, Q w4 wx → wx.cell? ⟨b, 2, none⟩ = some (.int .i64 c4)) := Lib.hid (fun wx hq => (hs4.q hq).c.2.2.1)
        have HI0 : Hid (∀ (x : UInt8) wx, Q w4 wx → ∃ r, Calls Tryz.prog 51 #[.pointer (some ⟨b, 0, none⟩), .int .u8 x.toNat] wx fun e w' => e = .returned (.bool r) ∧ Q wx w') := Lib.hid (fun x wx hq => ⟨_, is_any b s q4 c4 a4 x wx (hs4.q hq)⟩)
        clear hs4 hg4 hc4 hr4 e4 HRe HU1
        obtain ⟨ra, hra⟩ := HI0.out 46 w4 (Q.refl _)
        have HA := Lib.hid hra
        clear hra
        go_wp2_with fail
        refine HA.out.mono ?_
        rintro e w5 ⟨rfl, hq5⟩
        have y2 := HSq.out w5 hq5
        obtain ⟨rb, hrb⟩ := HI0.out 101 w5 hq5
        have HB := Lib.hid hrb
        have HQ5 := Lib.hid hq5
        clear hrb hq5 HA
        go_wp2_with fail
        refine HB.out.mono ?_
        rintro e w6 ⟨rfl, hq6⟩
        obtain ⟨rc, hrc⟩ := HI0.out 69 w6 (HQ5.out.trans hq6)
        have HC := Lib.hid hrc
        have HQ6 := Lib.hid (HQ5.out.trans hq6)
        clear hrc hq6 HB y2
        go_wp2_with fail
        refine HC.out.mono ?_
        rintro e w7 ⟨rfl, hq7⟩
        have y2 := HSq.out w7 (HQ6.out.trans hq7)
        have HX := Lib.hid (HX4.out w7 (HQ6.out.trans hq7))
        clear hq7 HC HI0
        go_wp2_with fail
        refine bodyPost_ret (results_none rfl _ _ _) rfl ?_
        exact HX.out
      obtain ⟨m4, hm4⟩ : ∃ m, isB s q4 46 = m := ⟨_, rfl⟩
      have HIs4 := Lib.hid (isn_is b s q4 0 a4 46 w4 hs4 m4 hm4)
      have H4 := Lib.hid (⟨hs4, hg4, hr4, hm4⟩ : _ ∧ _ ∧ _ ∧ _)
      clear hs4 hg4 hr4 hm4
      go_wp2_with fail
      refine HIs4.out.mono ?_
      rintro e w5 ⟨rfl, hq5⟩
      have hs5 := H4.out.1.q hq5
      have HG5 := Lib.hid (H4.out.2.1.trans (GX.q hq5))
      obtain ⟨-, y1, y2, -⟩ := hs5.c
      have f1 := hs5.f 1
      have HS5 := Lib.hid hs5
      clear hq5 HIs4 hs5 HU1
      obtain ⟨r2, hr2⟩ : ∃ r2, fracR (s.drop q4) = r2 := ⟨_, rfl⟩
      have HRf : Hid (r = r2.bind fun _ l3 => expR l3) := Lib.hid (by
        rw [HRe.out, H4.out.2.2.1, ← hr2]; rfl)
      have HF4 : Hid (r2 = if m4 = true then digR (s.drop (q4 + 1)) else .ok () (s.drop q4)) := Lib.hid (by
        rw [← hr2]
        unfold fracR
        rw [hd_ite (by decide) H4.out.2.2.2, tail_drop'])
      clear hr2 HRe
      go_upto_if 40 with (fail)
      go_cut [] (fun wx => Hid (UnR b s a4 r2 w wx))
      case first =>
        cases m4 with
        | true =>
          have HS6 := Lib.hid HS5.out.at1
          have HDg := Lib.hid (rdigits_any b s (q4 + 1) a4 _ HS6.out (by have := is_lt H4.out.2.2.2; omega) HL.out)
          have HG6 : Hid (GX [b] w (w5.setCell ⟨b, 1, none⟩ (.int .i64 ((q4 : Int) + 1)))) := Lib.hid (HG5.out.set (by simp) _ _)
          go_wp2_with fail
          refine HDg.out.mono ?_
          rintro e w6 ⟨rfl, hu⟩
          have HX : Hid (UnR b s a4 r2 w w6) := Lib.hid (by
            have e : r2 = digR (s.drop (q4 + 1)) := by rw [HF4.out]; simp
            rw [e]
            exact hu.grow HG6.out)
          clear hu HDg
          go_wp2_with fail
          go_meet
          exact HX
        | false =>
          have HX : Hid (UnR b s a4 r2 w w5) := Lib.hid (by
            have e : r2 = .ok () (s.drop q4) := by rw [HF4.out]; simp
            rw [e]
            exact UnR.ok HG5.out hq4 rfl HS5.out)
          go_wp2_with fail
          go_meet
          exact HX
      case rest =>
        rename World => w6
        have HU6 := hcut
        clear hcut y1 y2 f1 HS5 HG5 H4 HF4
        obtain ⟨q6, c6, a6, hq6, hs6, hg6, hc6⟩ := HU6.out.st
        obtain ⟨me, hme⟩ : ∃ m, isB s q6 101 = m := ⟨_, rfl⟩
        obtain ⟨mE, hmE⟩ : ∃ m, isB s q6 69 = m := ⟨_, rfl⟩
        have HIe := Lib.hid (isn_is b s q6 c6 a6 101 w6 hs6 me hme)
        have H6 := Lib.hid (⟨hs6, hg6, hc6, hme, hmE⟩ : _ ∧ _ ∧ _ ∧ _ ∧ _)
        clear hs6 hg6 hc6 hme
        go_wp2_with fail
        refine HIe.out.mono ?_
        rintro e w7 ⟨rfl, hq7⟩
        have HIE := Lib.hid (isn_is b s q6 c6 a6 69 w7 (H6.out.1.q hq7) mE hmE)
        have HQ7 := Lib.hid hq7
        clear hq7 HIe hmE
        go_wp2_with fail
        refine HIE.out.mono ?_
        rintro e w8 ⟨rfl, hq8⟩
        have HU8 := Lib.hid (HU6.out.q (HQ7.out.trans hq8))
        have hs8 := H6.out.1.q (HQ7.out.trans hq8)
        have HG8 := Lib.hid (H6.out.2.1.trans (GX.q (HQ7.out.trans hq8)))
        obtain ⟨-, y1, y2, -⟩ := hs8.c
        have f1 := hs8.f 1
        have HS8 := Lib.hid hs8
        clear hq8 HIE hs8 HU6 HQ7
        rcases H6.out.2.2.1 with ⟨hc, ha, hr⟩ | ⟨hc, c0, n, hr⟩
        · subst hc
          subst ha
          have HF8 : Hid (r = if (me || mE) = true then digR (signR (s.drop (q6 + 1))) else .ok () (s.drop q6)) := Lib.hid (by
            rw [HRf.out, hr]
            show expR (s.drop q6) = _
            unfold expR
            rw [hd_ite2 (by decide) (by decide) H6.out.2.2.2.1 H6.out.2.2.2.2, tail_drop'])
          clear hr
          by_cases hem : (me || mE) = true
          · have hq7 : q6 + 1 ≤ s.length := by
              rw [Bool.or_eq_true] at hem
              rcases hem with h | h
              · have := is_lt (H6.out.2.2.2.1.trans h); omega
              · have := is_lt (H6.out.2.2.2.2.trans h); omega
            have HF9 : Hid (r = digR (signR (s.drop (q6 + 1)))) := Lib.hid (by rw [HF8.out]; exact if_pos hem)
            have HS9 := Lib.hid HS8.out.at1
            have HG9 : Hid (GX [b] w (w8.setCell ⟨b, 1, none⟩ (.int .i64 ((q6 : Int) + 1)))) := Lib.hid (HG8.out.set (by simp) _ _)
            obtain ⟨w9, hw9⟩ : ∃ w9, w8.setCell ⟨b, 1, none⟩ (.int .i64 ((q6 : Int) + 1)) = w9 := ⟨_, rfl⟩
            rw [hw9] at HS9 HG9
            obtain ⟨mp, hmp⟩ : ∃ m, isB s (q6 + 1) 43 = m := ⟨_, rfl⟩
            obtain ⟨mm, hmm⟩ : ∃ m, isB s (q6 + 1) 45 = m := ⟨_, rfl⟩
            have HIp := Lib.hid (isn_is b s (q6 + 1) 0 a6 43 w9 HS9.out mp hmp)
            have HM9 := Lib.hid (⟨hmp, hmm⟩ : _ ∧ _)
            clear HF8 hmp
            have hwalk : ∀ x y : Bool, me = x → mE = y → (x || y) = true → True := fun _ _ _ _ _ => trivial
            clear hwalk
            rcases me with _ | _ <;> rcases mE with _ | _
            case' false.false => exact absurd hem (by decide)
            all_goals
              clear hem
              go_wp2_with fail
              refine HIp.out.mono ?_
              rintro e wa ⟨rfl, hqa⟩
              have HIm := Lib.hid (isn_is b s (q6 + 1) 0 a6 45 wa (HS9.out.q hqa) mm hmm)
              have HQa := Lib.hid hqa
              clear hqa hw9 y1 y2 f1 hmm
              go_wp2_with fail
              refine HIm.out.mono ?_
              rintro e wb ⟨rfl, hqb⟩
              have hsb := HS9.out.q (HQa.out.trans hqb)
              have HGb := Lib.hid (HG9.out.trans (GX.q (HQa.out.trans hqb)))
              obtain ⟨-, y1, -, -⟩ := hsb.c
              have f1 := hsb.f 1
              have HSb := Lib.hid hsb
              clear hqb HQa HIm hsb
              have HSg : Hid (signR (s.drop (q6 + 1)) = if (mp || mm) = true then s.drop (q6 + 1 + 1) else s.drop (q6 + 1)) := Lib.hid (by
                unfold signR
                rw [hd_ite2 (by decide) (by decide) HM9.out.1 HM9.out.2, tail_drop'])
              by_cases hpm : (mp || mm) = true
              · have HSc := Lib.hid HSb.out.at1
                have HGc : Hid (GX [b] w (wb.setCell ⟨b, 1, none⟩ (.int .i64 (((q6 + 1 : Nat) : Int) + 1)))) := Lib.hid (HGb.out.set (by simp) _ _)
                have hq8 : q6 + 1 + 1 ≤ s.length := by
                  rw [Bool.or_eq_true] at hpm
                  rcases hpm with h | h
                  · have := is_lt (HM9.out.1.trans h); omega
                  · have := is_lt (HM9.out.2.trans h); omega
                have HDg := Lib.hid (rdigits_any b s (q6 + 1 + 1) a6 _ HSc.out hq8 HL.out)
                have HFd : Hid (r = digR (s.drop (q6 + 1 + 1))) := Lib.hid (by rw [HF9.out, HSg.out, if_pos hpm])
                rcases mp with _ | _ <;> rcases mm with _ | _
                case' false.false => exact absurd hpm (by decide)
                all_goals
                  clear hpm
                  go_wp2_with fail
                  refine HDg.out.mono ?_
                  rintro e wc ⟨rfl, hu⟩
                  have HX : Hid (UnP b s a6 r w (.returned (.tuple #[])) wc) := Lib.hid ⟨rfl, by rw [HFd.out]; exact hu.grow HGc.out⟩
                  clear hu HDg
                  go_wp2_with fail
                  refine bodyPost_ret (results_none rfl _ _ _) rfl ?_
                  exact HX.out
              · have HDg := Lib.hid (rdigits_any b s (q6 + 1) a6 _ HSb.out hq7 HL.out)
                have HFd : Hid (r = digR (s.drop (q6 + 1))) := Lib.hid (by rw [HF9.out, HSg.out, if_neg hpm])
                have hpm1 : mp = false := by cases mp <;> simp_all
                have hpm2 : mm = false := by cases mm <;> simp_all
                subst hpm1
                subst hpm2
                clear hpm
                go_wp2_with fail
                refine HDg.out.mono ?_
                rintro e wc ⟨rfl, hu⟩
                have HX : Hid (UnP b s a6 r w (.returned (.tuple #[])) wc) := Lib.hid ⟨rfl, by rw [HFd.out]; exact hu.grow HGb.out⟩
                clear hu HDg
                go_wp2_with fail
                refine bodyPost_ret (results_none rfl _ _ _) rfl ?_
                exact HX.out
          · have HX : Hid (UnP b s a6 r w (.returned (.tuple #[])) w8) := Lib.hid ⟨rfl, by
              have e : r = .ok () (s.drop q6) := by rw [HF8.out]; exact if_neg hem
              rw [e]
              exact UnR.ok HG8.out hq6 rfl HS8.out⟩
            have he1 : me = false := by cases me <;> simp_all
            have he2 : mE = false := by cases mE <;> simp_all
            subst he1
            subst he2
            clear hem
            go_wp2_with fail
            refine bodyPost_ret (results_none rfl _ _ _) rfl ?_
            exact HX.out
        · have hcd : (c6 == 0) = false := by simpa using hc
          have HX : Hid (UnP b s a4 r w (.returned (.tuple #[])) w8) := Lib.hid ⟨rfl, by
            have e : r = r2 := by rw [HRf.out, hr]; rfl
            rw [e]; exact HU8.out⟩
          clear hc hr
          go_wp2_with fail
          refine bodyPost_ret (results_none rfl _ _ _) rfl ?_
          exact HX.out
end Go.Proofs.YtlhhiiemojhjdaaGreatDoor
set_option linter.unusedVariables false
set_option linter.unusedSimpArgs false
namespace Go.Proofs.YtlhhiiemojhjdaaGreatDoor
open Go Go.RowKit
def fourI : Nat → Nat → Txt → Int
  | 0, n, _ => (n : Int)
  | _ + 1, _, [] => -2
  | k + 1, n, b :: t => match hexJ b with
    | none => -1
    | some v => fourI k (16 * n + v) t
theorem four_I (f : Nat) : ∀ (k n : Nat) (l : Txt), (fourI k n l = -2 ∧ fourR f k n l = .bad 54 0) ∨ (fourI k n l = -1 ∧ fourR f k n l = .bad 54 f) ∨ ∃ m : Nat, fourI k n l = (m : Int) ∧ fourR f k n l = .ok m (l.drop k) ∧ k ≤ l.length
  | 0, n, l => .inr (.inr ⟨n, rfl, rfl, Nat.zero_le _⟩)
  | k + 1, n, [] => .inl ⟨rfl, rfl⟩
  | k + 1, n, b :: t => by
    rw [fourI, fourR]
    cases hexJ b with
    | none => exact .inr (.inl ⟨rfl, rfl⟩)
    | some v =>
      rcases four_I f k (16 * n + v) t with h | h | ⟨m, h1, h2, h3⟩
      · exact .inl h
      · exact .inr (.inl h)
      · exact .inr (.inr ⟨m, h1, h2, by simp; omega⟩)
theorem hexV_lt {b : UInt8} {v : Nat} (h : hexJ b = some v) : v < 16 := by
  unfold hexJ at h
  split at h
  · injection h with h; omega
  · split at h
    · injection h with h; omega
    · split at h
      · injection h with h; omega
      · cases h
def pwH : Nat → Nat
  | 4 => 1
  | 3 => 16
  | 2 => 256
  | 1 => 4096
  | _ => 65536
theorem pwH_step {k N V : Nat} (hk : k + 1 ≤ 4) (hN : N < pwH (k + 1)) (hV : V < 16) : 16 * N + V < pwH k := by
  rcases k with _ | _ | _ | _ | k
  · have e1 : pwH 0 = 65536 := rfl
    have e2 : pwH 1 = 4096 := rfl
    rw [e1]; rw [e2] at hN; omega
  · have e1 : pwH 1 = 4096 := rfl
    have e2 : pwH 2 = 256 := rfl
    rw [e1]; rw [e2] at hN; omega
  · have e1 : pwH 2 = 256 := rfl
    have e2 : pwH 3 = 16 := rfl
    rw [e1]; rw [e2] at hN; omega
  · have e1 : pwH 3 = 16 := rfl
    have e2 : pwH 4 = 1 := rfl
    rw [e1]; rw [e2] at hN; omega
  · omega
theorem pwH_le {k : Nat} (hk : k + 1 ≤ 4) : pwH (k + 1) ≤ 4096 := by
  rcases k with _ | _ | _ | _ | k
  · decide
  · decide
  · decide
  · decide
  · omega
theorem fourI_lt : ∀ (k n : Nat) (l : Txt), n < pwH k → k ≤ 4 → fourI k n l < 65536
  | 0, n, l, h, _ => by
    rw [fourI]
    have e : pwH 0 = 65536 := rfl
    rw [e] at h; omega
  | k + 1, n, [], h, _ => by rw [fourI]; decide
  | k + 1, n, b :: t, h, hk => by
    rw [fourI]
    cases hb : hexJ b with
    | none => show (-1 : Int) < 65536; decide
    | some v => exact fourI_lt k (16 * n + v) t (pwH_step hk h (hexV_lt hb)) (by omega)
theorem fourI_at (l : Txt) (k n : Nat) {q : Nat} (h : q < l.length) : fourI (k + 1) n (l.drop q) = match hexJ (gB l q) with | none => -1 | some v => fourI k (16 * n + v) (l.drop (q + 1)) := by
  rw [drop_at h, fourI]
theorem fourI_end (l : Txt) (k n : Nat) {q : Nat} (h : l.length ≤ q) : fourI (k + 1) n (l.drop q) = -2 := by
  rw [List.drop_of_length_le h, fourI]
set_option maxRecDepth 100000 in
set_option maxHeartbeats 4000000 in
theorem rfour_any (b : Nat) (s : Txt) (p A : Nat) (c a : Int) (w : World) (h : ScB w b s p c a) (hA : A ≤ s.length + 10) (hl : s.length ≤ 1000000000) :
    Calls Tryz.prog 78 #[.pointer (some ⟨b, 0, none⟩), .int .i64 (A : Int)] w fun e w' => e = .returned (.int .i64 (fourI 4 0 (s.drop A))) ∧ Q w w' := by
  obtain ⟨R, hR⟩ : ∃ R, fourI 4 0 (s.drop A) = R := ⟨_, rfl⟩
  rw [hR]
  have HR := Lib.hid hR
  have H := Lib.hid h
  clear h hR
  go_enter Tryz.func78, Tryz.ntmps78
  go_wp2_with fail
  go_loopg [5, 6] 5 (fun gk n i wx => ∃ (k N : Nat), gk = k + 1 ∧ k ≤ 4 ∧ N < pwH k ∧ n = .int .i64 (N : Int) ∧ i = .int .i64 ((A + (4 - k) : Nat) : Int) ∧ Hid (fourI k N (s.drop (A + (4 - k))) = R ∧ Q w wx))
  case atStart => exact ⟨4, 0, rfl, by omega, by decide, rfl, by simp, Lib.hid ⟨by simpa using HR.out, Q.refl w⟩⟩
  case round =>
    obtain ⟨k, N, rfl, hk, hN, rfl, rfl, HI⟩ := hrel
    rename World => wa
    obtain ⟨B, hB⟩ : ∃ B, A + (4 - k) = B := ⟨_, rfl⟩
    rw [hB] at HI ⊢
    have HBe := Lib.hid hB
    have hs := H.out.q HI.out.2
    obtain ⟨x0, -, -, -⟩ := hs.c
    rcases k with _ | k
    · have hBA : B = A + 4 := by omega
      have hd : decide ((B : Int) < (A : Int) + 4) = false := by simp; omega
      have HX : Hid ((N : Int) = R ∧ Q w wa) := Lib.hid ⟨by have := HI.out.1; rw [fourI] at this; exact this, HI.out.2⟩
      clear HI hs hB hBA
      go_wp2_with fail
      go_ret
      exact ⟨ret_int HX.out.1, HX.out.2⟩
    · have hN3 : N < 4096 := by have := pwH_le hk; omega
      have hd : decide ((B : Int) < (A : Int) + 4) = true := by simp; omega
      by_cases hBl : B < s.length
      · have hd2 : decide (s.length ≤ B) = false := by simpa using hBl
        have hd3 : decide (B < s.length) = true := by simpa using hBl
        have hE := HI.out.1
        rw [fourI_at s k N hBl] at hE
        obtain ⟨v, hv⟩ : ∃ v, gB s B = v := ⟨_, rfl⟩
        rw [hv] at hE
        have HNext : Hid (∀ V : Nat, hexJ v = some V → V < 16 ∧ 16 * N + V < pwH k ∧ fourI k (16 * N + V) (s.drop (A + (4 - k))) = R) := Lib.hid (fun V hV => by
          rw [hV] at hE
          have hlt := hexV_lt hV
          exact ⟨hlt, pwH_step hk hN hlt, by rw [show A + (4 - k) = B + 1 by omega]; exact hE⟩)
        have HNo : Hid (hexJ v = none → (-1 : Int) = R) := Lib.hid (fun hV => by rw [hV] at hE; exact hE)
        have HQ := Lib.hid HI.out.2
        have hbk : ((A + (4 - k) : Nat) : Int) = (B : Int) + 1 := by omega
        have HBk := Lib.hid hbk
        clear HI hs hB hE hbk hN
        have hd4 : True := trivial
        by_cases c48 : 48 ≤ v.toNat
        · have g48 : decide ((48 : Int) ≤ (v.toNat : Int)) = true := by simp; omega
          by_cases c57 : v.toNat ≤ 57
          · have g57 : decide ((v.toNat : Int) ≤ 57) = true := by simp; omega
            obtain ⟨hv1, hv2, hv3⟩ := HNext.out (v.toNat - 48) (by unfold hexJ; rw [if_pos ⟨c48, c57⟩])
            have HN : Hid (fourI k (16 * N + (v.toNat - 48)) (s.drop (A + (4 - k))) = R ∧ Q w wa) := Lib.hid ⟨hv3, HQ.out⟩
            clear hv1 hv3 HNext HNo hd4
            go_wp2_with fail
            go_roundg (k + 1)
            case measure => omega
            case rel => exact ⟨k, 16 * N + (v.toNat - 48), rfl, by omega, hv2, by congr 1; omega, by rw [HBk.out], HN⟩
          · have g57 : decide ((v.toNat : Int) ≤ 57) = false := by simp; omega
            by_cases c97 : 97 ≤ v.toNat
            · have g97 : decide ((97 : Int) ≤ (v.toNat : Int)) = true := by simp; omega
              by_cases c102 : v.toNat ≤ 102
              · have g102 : decide ((v.toNat : Int) ≤ 102) = true := by simp; omega
                obtain ⟨hv1, hv2, hv3⟩ := HNext.out (v.toNat - 87) (by unfold hexJ; rw [if_neg (by omega), if_pos ⟨c97, c102⟩])
                have HN : Hid (fourI k (16 * N + (v.toNat - 87)) (s.drop (A + (4 - k))) = R ∧ Q w wa) := Lib.hid ⟨hv3, HQ.out⟩
                clear hv1 hv3 HNext HNo hd4
                go_wp2_with fail
                go_roundg (k + 1)
                case measure => omega
                case rel => exact ⟨k, 16 * N + (v.toNat - 87), rfl, by omega, hv2, by congr 1; omega, by rw [HBk.out], HN⟩
              · have g102 : decide ((v.toNat : Int) ≤ 102) = false := by simp; omega
                have g65 : decide ((65 : Int) ≤ (v.toNat : Int)) = true := by simp; omega
                have g70 : decide ((v.toNat : Int) ≤ 70) = false := by simp; omega
                have HX : Hid ((-1 : Int) = R) := Lib.hid (HNo.out (by unfold hexJ; rw [if_neg (by omega), if_neg (by omega), if_neg (by omega)]))
                clear HNext HNo hd4
                go_wp2_with fail
                go_ret
                exact ⟨ret_int HX.out, HQ.out⟩
            · have g97 : decide ((97 : Int) ≤ (v.toNat : Int)) = false := by simp; omega
              by_cases c65 : 65 ≤ v.toNat
              · have g65 : decide ((65 : Int) ≤ (v.toNat : Int)) = true := by simp; omega
                by_cases c70 : v.toNat ≤ 70
                · have g70 : decide ((v.toNat : Int) ≤ 70) = true := by simp; omega
                  obtain ⟨hv1, hv2, hv3⟩ := HNext.out (v.toNat - 55) (by unfold hexJ; rw [if_neg (by omega), if_neg (by omega), if_pos ⟨c65, c70⟩])
                  have HN : Hid (fourI k (16 * N + (v.toNat - 55)) (s.drop (A + (4 - k))) = R ∧ Q w wa) := Lib.hid ⟨hv3, HQ.out⟩
                  clear hv1 hv3 HNext HNo hd4
                  go_wp2_with fail
                  go_roundg (k + 1)
                  case measure => omega
                  case rel => exact ⟨k, 16 * N + (v.toNat - 55), rfl, by omega, hv2, by congr 1; omega, by rw [HBk.out], HN⟩
                · have g70 : decide ((v.toNat : Int) ≤ 70) = false := by simp; omega
                  have HX : Hid ((-1 : Int) = R) := Lib.hid (HNo.out (by unfold hexJ; rw [if_neg (by omega), if_neg (by omega), if_neg (by omega)]))
                  clear HNext HNo hd4
                  go_wp2_with fail
                  go_ret
                  exact ⟨ret_int HX.out, HQ.out⟩
              · have g65 : decide ((65 : Int) ≤ (v.toNat : Int)) = false := by simp; omega
                have HX : Hid ((-1 : Int) = R) := Lib.hid (HNo.out (by unfold hexJ; rw [if_neg (by omega), if_neg (by omega), if_neg (by omega)]))
                clear HNext HNo hd4
                go_wp2_with fail
                go_ret
                exact ⟨ret_int HX.out, HQ.out⟩
        · have g48 : decide ((48 : Int) ≤ (v.toNat : Int)) = false := by simp; omega
          have g97 : decide ((97 : Int) ≤ (v.toNat : Int)) = false := by simp; omega
          have g65 : decide ((65 : Int) ≤ (v.toNat : Int)) = false := by simp; omega
          have HX : Hid ((-1 : Int) = R) := Lib.hid (HNo.out (by unfold hexJ; rw [if_neg (by omega), if_neg (by omega), if_neg (by omega)]))
          clear HNext HNo hd4
          go_wp2_with fail
          go_ret
          exact ⟨ret_int HX.out, HQ.out⟩
      · have hd2 : decide (s.length ≤ B) = true := by simp; omega
        have HX : Hid ((-2 : Int) = R ∧ Q w wa) := Lib.hid ⟨by have := HI.out.1; rw [fourI_end s k N (by omega)] at this; exact this, HI.out.2⟩
        clear HI hs hB
        go_wp2_with fail
        go_ret
        exact ⟨ret_int HX.out.1, HX.out.2⟩
def okC (c : Nat) : Prop := c ≤ 1114111 ∧ ¬ (55296 ≤ c ∧ c ≤ 57343)
theorem enc_bytes (r : Int) : (Lib.encodeRuneZ r).map byteOf = Lib.encodeRune r := rfl
set_option maxRecDepth 100000 in
set_option maxHeartbeats 4000000 in
theorem rChar_any (c : Nat) (w : World) (hc : okC c) : Calls Tryz.prog 79 #[.int .i64 (c : Int)] w fun e w' => e = .returned (.string ⟨(Lib.encodeRune (c : Int)).toArray⟩) ∧ Q w w' := by
  obtain ⟨h1, h2⟩ := hc
  have hcc : (c : Int) ≤ 1114111 := by omega
  have hby := Lib.encodeRuneZ_byte (c : Int)
  have hconv := fun W => conv_bytes (P := Tryz.prog) W 104 9 5 (Lib.encodeRuneZ (c : Int)).length (Lib.encodeRuneZ (c : Int)) Tryz.underlying104 Tryz.underlying5 Tryz.underlying9 hby
  simp only [enc_bytes] at hconv
  obtain ⟨E, hE⟩ : ∃ E, Lib.encodeRune (c : Int) = E := ⟨_, rfl⟩
  rw [hE] at hconv ⊢
  have HQ : Hid (∀ (o : Obj), Q w (w.alloc o)) := Lib.hid (fun o => (Q.refl w).alloc o)
  clear hby hE
  by_cases c1 : c < 128
  · have g1 : decide ((c : Int) < 128) = true := by simp; omega
    have e := Lib.encodeRuneZ_one (r := (c : Int)) (by omega) (by omega)
    rw [e] at hconv
    simp only [List.length_cons, List.length_nil, List.map_cons, List.map_nil] at hconv
    clear e
    go_enter Tryz.func79, Tryz.ntmps79
    go_wp2_with fail
    go_ret
    exact ⟨rfl, HQ.out _⟩
  · have g1 : decide ((c : Int) < 128) = false := by simp; omega
    by_cases c2 : c < 2048
    · have g2 : decide ((c : Int) < 2048) = true := by simp; omega
      have e := Lib.encodeRuneZ_two (r := (c : Int)) (by omega) (by omega)
      rw [e] at hconv
      simp only [List.length_cons, List.length_nil, List.map_cons, List.map_nil] at hconv
      clear e
      go_enter Tryz.func79, Tryz.ntmps79
      go_wp2_with fail
      go_ret
      exact ⟨rfl, HQ.out _⟩
    · have g2 : decide ((c : Int) < 2048) = false := by simp; omega
      by_cases c3 : c < 65536
      · have g3 : decide ((c : Int) < 65536) = true := by simp; omega
        have e := Lib.encodeRuneZ_three (r := (c : Int)) (by omega)
        rw [e] at hconv
        simp only [List.length_cons, List.length_nil, List.map_cons, List.map_nil] at hconv
        clear e
        go_enter Tryz.func79, Tryz.ntmps79
        go_wp2_with fail
        go_ret
        exact ⟨rfl, HQ.out _⟩
      · have g3 : decide ((c : Int) < 65536) = false := by simp; omega
        have e := Lib.encodeRuneZ_four (r := (c : Int)) (by omega) (by omega)
        rw [e] at hconv
        simp only [List.length_cons, List.length_nil, List.map_cons, List.map_nil] at hconv
        clear e
        go_enter Tryz.func79, Tryz.ntmps79
        go_wp2_with fail
        go_ret
        exact ⟨rfl, HQ.out _⟩
end Go.Proofs.YtlhhiiemojhjdaaGreatDoor
set_option linter.unusedVariables false
set_option linter.unusedSimpArgs false
namespace Go.Proofs.YtlhhiiemojhjdaaGreatDoor
open Go Go.RowKit
def TxP (b : Nat) (s : Txt) (a : Int) (r : PR Txt) (w : World) (e : Ending) (w' : World) : Prop := GX [b] w w' ∧
  match r with
  | .ok x t => e = .returned (.string ⟨x.toArray⟩) ∧ ∃ q, q ≤ s.length ∧ s.drop q = t ∧ ScB w' b s q 0 a
  | .bad c n => e = .returned (.string ⟨#[]⟩) ∧ ∃ q, q ≤ s.length ∧ c ≠ 0 ∧ ScB w' b s q (c : Int) ((s.length - n : Nat) : Int)
theorem txt_bad {b : Nat} {s : Txt} {a A : Int} {n : Nat} {w w1 w2 : World} {q : Nat} (hg : GX [b] w w1) (hg2 : GX [b] w1 w2) (hq : q ≤ s.length) (hA : A = ((s.length - n : Nat) : Int)) (hs : ScB w2 b s q (keepE 0 a 54 A).1 (keepE 0 a 54 A).2) : TxP b s a (.bad 54 n) w (.returned (.string ⟨#[]⟩)) w2 := by
  refine ⟨hg.trans hg2, rfl, q, hq, by decide, ?_⟩
  rw [← hA]; simpa [keepE] using hs
theorem ScB.atn {w : World} {b : Nat} {s : Txt} {p : Nat} {c a : Int} (h : ScB w b s p c a) (q : Nat) (z : Int) (hz : z = (q : Int)) : ScB (w.setCell ⟨b, 1, none⟩ (.int .i64 z)) b s q c a := by
  subst hz; exact h.set q
theorem unit_at {f : Nat} {s : Txt} {p : Nat} : unitR f (s.drop p) = if s.length ≤ p then .bad 54 0 else if gB s p ≠ 92 then .bad 54 f else if s.length ≤ p + 1 then .bad 54 0 else if gB s (p + 1) ≠ 117 then .bad 54 f else fourR f 4 0 (s.drop (p + 2)) := by
  unfold unitR
  by_cases h1 : s.length ≤ p
  · rw [if_pos h1, List.drop_of_length_le h1]; rfl
  · rw [if_neg h1, drop_at (by omega), mustR]
    by_cases h2 : gB s p = 92
    · rw [if_pos h2, if_neg (by simpa using h2)]
      show (mustR f 117 (s.drop (p + 1))).bind _ = _
      by_cases h3 : s.length ≤ p + 1
      · rw [if_pos h3, List.drop_of_length_le h3]; rfl
      · rw [if_neg h3, drop_at (by omega), mustR]
        by_cases h4 : gB s (p + 1) = 117
        · rw [if_pos h4, if_neg (by simpa using h4)]; rfl
        · rw [if_neg h4, if_pos (by simpa using h4)]; rfl
    · rw [if_neg h2, if_pos (by simpa using h2)]; rfl
set_option maxRecDepth 100000 in
set_option maxHeartbeats 8000000 in
theorem rcode_any (b : Nat) (s : Txt) (f q : Nat) (a : Int) (w : World) (h : ScB w b s q 0 a) (hq : q ≤ s.length) (hf : f + 2 ≤ s.length) (hl : s.length ≤ 100000000) :
    Calls Tryz.prog 68 #[.pointer (some ⟨b, 0, none⟩), .int .i64 (f : Int)] w (TxP b s a ((fourR (s.length - f) 4 0 (s.drop (f + 2))).bind fun c u => codeR (s.length - f) c u) w) := by
  obtain ⟨r, hr⟩ : ∃ r, ((fourR (s.length - f) 4 0 (s.drop (f + 2))).bind fun c u => codeR (s.length - f) c u) = r := ⟨_, rfl⟩
  rw [hr]
  have h4 := four_I (s.length - f) 4 0 (s.drop (f + 2))
  have hlt := fourI_lt 4 0 (s.drop (f + 2)) (by decide) (by decide)
  have HF4 := Lib.hid (rfour_any b s q (f + 2) 0 a w h (by omega) (by omega))
  obtain ⟨n, hn⟩ : ∃ n, fourI 4 0 (s.drop (f + 2)) = n := ⟨_, rfl⟩
  rw [hn] at h4 hlt HF4
  have H := Lib.hid h
  have HL := Lib.hid hl
  have hfl : (s.length : Int) ≤ 100000000 := by omega
  have HNo : Hid (∀ (wx : World) (A : Int) q, ScB wx b s q 0 a → Calls Tryz.prog 27 #[.pointer (some ⟨b, 0, none⟩), .int .i64 54, .int .i64 A] wx fun e w' => e = .returned (.tuple #[]) ∧ ScB w' b s q (keepE 0 a 54 A).1 (keepE 0 a 54 A).2 ∧ GX [b] wx w') := Lib.hid (fun wx A q hs => no_any b s q 0 a 54 A wx hs)
  have hA1 : ((f + 2 : Nat) : Int) = (f : Int) + 2 := by omega
  rw [hA1] at HF4
  clear hA1 hn h
  go_enter Tryz.func68, Tryz.ntmps68
  go_wp2_with fail
  refine HF4.out.mono ?_
  rintro e w1 ⟨rfl, hq1⟩
  have HQ1 := Lib.hid hq1
  have HS1 := Lib.hid (H.out.q hq1)
  obtain ⟨x0, x1, x2, -⟩ := (H.out.q hq1).c
  clear hq1 HF4
  rcases h4 with ⟨rfl, h4⟩ | ⟨rfl, h4⟩ | ⟨m, rfl, h4, hk⟩
  · have HX : Hid (r = .bad 54 0) := Lib.hid (by rw [← hr, h4]; rfl)
    have HN1 := Lib.hid (HNo.out w1 s.length q HS1.out)
    clear hr h4 HNo
    go_wp2_with fail
    refine HN1.out.mono ?_
    rintro e w2 ⟨rfl, hs2, hg2⟩
    have HP : Hid (TxP b s a r w (.returned (.string ⟨#[]⟩)) w2) := Lib.hid (by rw [HX.out]; exact txt_bad (GX.q HQ1.out) hg2 hq (by simp) hs2)
    clear hs2 hg2
    go_wp2_with fail
    go_ret
    exact HP.out
  · have HX : Hid (r = .bad 54 (s.length - f)) := Lib.hid (by rw [← hr, h4]; rfl)
    have HN1 := Lib.hid (HNo.out w1 f q HS1.out)
    clear hr h4 HNo
    go_wp2_with fail
    refine HN1.out.mono ?_
    rintro e w2 ⟨rfl, hs2, hg2⟩
    have HP : Hid (TxP b s a r w (.returned (.string ⟨#[]⟩)) w2) := Lib.hid (by rw [HX.out]; exact txt_bad (GX.q HQ1.out) hg2 hq (by omega) hs2)
    clear hs2 hg2
    go_wp2_with fail
    go_ret
    exact HP.out
  · have hm6 : f + 6 ≤ s.length := by rw [List.length_drop] at hk; omega
    have hdr : (s.drop (f + 2)).drop 4 = s.drop (f + 6) := by rw [List.drop_drop]
    rw [h4, hdr] at hr
    have hr : codeR (s.length - f) m (s.drop (f + 6)) = r := hr
    have HR := Lib.hid hr
    have hmn : decide ((m : Int) < 0) = false := by simp
    have hm2 : ((m : Int) == -2) = false := by simp
    clear hr h4 hdr hk
    by_cases c1 : 56320 ≤ m ∧ m ≤ 57343
    · have HX : Hid (r = .bad 54 (s.length - f)) := Lib.hid (by rw [← HR.out]; unfold codeR; rw [if_pos c1])
      have HN1 := Lib.hid (HNo.out w1 f q HS1.out)
      have g1 : decide ((56320 : Int) ≤ (m : Int)) = true := by simp; omega
      have g2 : decide ((m : Int) ≤ 57343) = true := by simp; omega
      clear c1 HNo
      go_wp2_with fail
      refine HN1.out.mono ?_
      rintro e w2 ⟨rfl, hs2, hg2⟩
      have HP : Hid (TxP b s a r w (.returned (.string ⟨#[]⟩)) w2) := Lib.hid (by rw [HX.out]; exact txt_bad (GX.q HQ1.out) hg2 hq (by omega) hs2)
      clear hs2 hg2
      go_wp2_with fail
      go_ret
      exact HP.out
    · by_cases c2 : m < 55296
      · have g1 : decide ((56320 : Int) ≤ (m : Int)) = false := by simp; omega
        have g3 : decide ((m : Int) < 55296) = true := by simp; omega
        have hok : okC m := ⟨by omega, by omega⟩
        have HX : Hid (r = .ok (Lib.encodeRune (m : Int)) (s.drop (f + 6))) := Lib.hid (by
          rw [← HR.out]; unfold codeR
          rw [if_neg c1, if_neg (by omega)])
        have HS2 := Lib.hid (HS1.out.atn (f + 6) ((f : Int) + 6) (by omega))
        have HG2 : Hid (GX [b] w (w1.setCell ⟨b, 1, none⟩ (.int .i64 ((f : Int) + 6)))) := Lib.hid ((GX.q HQ1.out).set (by simp) _ _)
        have HCh := Lib.hid (rChar_any m (w1.setCell ⟨b, 1, none⟩ (.int .i64 ((f : Int) + 6))) hok)
        have f1 := HS1.out.f 1
        clear hok c1
        go_wp2_with fail
        refine HCh.out.mono ?_
        rintro e w2 ⟨rfl, hq2⟩
        have HP : Hid (TxP b s a r w (.returned (.string ⟨(Lib.encodeRune (m : Int)).toArray⟩)) w2) := Lib.hid (by
          rw [HX.out]
          exact ⟨HG2.out.trans (GX.q hq2), rfl, f + 6, hm6, rfl, HS2.out.q hq2⟩)
        clear hq2 HCh
        go_wp2_with fail
        go_ret
        exact HP.out
      · have g3 : decide ((m : Int) < 55296) = false := by simp; omega
        by_cases c3 : 57343 < m
        · have g1 : decide ((56320 : Int) ≤ (m : Int)) = true := by simp; omega
          have g2 : decide ((m : Int) ≤ 57343) = false := by simp; omega
          have g4 : decide ((57343 : Int) < (m : Int)) = true := by simp; omega
          have hok : okC m := ⟨by omega, by omega⟩
          have HX : Hid (r = .ok (Lib.encodeRune (m : Int)) (s.drop (f + 6))) := Lib.hid (by
            rw [← HR.out]; unfold codeR
            rw [if_neg c1, if_neg (by omega)])
          have HS2 := Lib.hid (HS1.out.atn (f + 6) ((f : Int) + 6) (by omega))
          have HG2 : Hid (GX [b] w (w1.setCell ⟨b, 1, none⟩ (.int .i64 ((f : Int) + 6)))) := Lib.hid ((GX.q HQ1.out).set (by simp) _ _)
          have HCh := Lib.hid (rChar_any m (w1.setCell ⟨b, 1, none⟩ (.int .i64 ((f : Int) + 6))) hok)
          have f1 := HS1.out.f 1
          clear hok c1
          go_wp2_with fail
          refine HCh.out.mono ?_
          rintro e w2 ⟨rfl, hq2⟩
          have HP : Hid (TxP b s a r w (.returned (.string ⟨(Lib.encodeRune (m : Int)).toArray⟩)) w2) := Lib.hid (by
            rw [HX.out]
            exact ⟨HG2.out.trans (GX.q hq2), rfl, f + 6, hm6, rfl, HS2.out.q hq2⟩)
          clear hq2 HCh
          go_wp2_with fail
          go_ret
          exact HP.out
        · have c5 : m < 56320 := by
            rcases Nat.lt_or_ge m 56320 with h | h
            · exact h
            · exact absurd ⟨h, by omega⟩ c1
          have g1 : decide ((56320 : Int) ≤ (m : Int)) = false := by simp; omega
          have g4 : decide ((57343 : Int) < (m : Int)) = false := by simp; omega
          have hp : 55296 ≤ m ∧ m ≤ 56319 := ⟨by omega, by omega⟩
          have HX : Hid (((unitR (s.length - f) (s.drop (f + 6))).bind fun d t => if 56320 ≤ d ∧ d ≤ 57343 then .ok (Lib.encodeRune ((65536 + 1024 * (m - 55296) + (d - 56320) : Nat) : Int)) t else .bad 54 (s.length - f)) = r) := Lib.hid (by
            rw [← HR.out]; unfold codeR
            rw [if_neg c1, if_pos hp])
          have HS2 := Lib.hid (HS1.out.atn (f + 6) ((f : Int) + 6) (by omega))
          have HG2 : Hid (GX [b] w (w1.setCell ⟨b, 1, none⟩ (.int .i64 ((f : Int) + 6)))) := Lib.hid ((GX.q HQ1.out).set (by simp) _ _)
          have f1 := HS1.out.f 1
          clear c1 HR
          go_upto_region 11 with (fail)
          obtain ⟨w2, hw2⟩ : ∃ w2, w1.setCell ⟨b, 1, none⟩ (.int .i64 ((f : Int) + 6)) = w2 := ⟨_, rfl⟩
          rw [hw2] at HS2 HG2 ⊢
          clear hw2 x0 x1 x2 f1 g1 g3 g4 HS1 HQ1
          go_wp2_with fail
          go_loopw [6] (fun i wx => ∃ k : Nat, k ≤ 2 ∧ i = .int .i64 (k : Int) ∧ Hid (ScB wx b s (f + 6) 0 a ∧ GX [b] w wx ∧ f + 6 + k ≤ s.length ∧ ∀ j, j < k → gB s (f + 6 + j) = gB [92, 117] j)) (fun i _ => 2 - (intOf i).toNat)
          case atStart => exact ⟨0, by omega, rfl, Lib.hid ⟨HS2.out, HG2.out, hm6, fun j hj => absurd hj (Nat.not_lt_zero j)⟩⟩
          case round =>
            obtain ⟨k, hk2, rfl, HI⟩ := hrel
            rename World => wa
            obtain ⟨x0, -, x2, -⟩ := HI.out.1.c
            by_cases hlt2 : k < 2
            · have hd : decide ((k : Int) < 2) = true := by simp; omega
              by_cases hend : s.length ≤ f + 6 + k
              · have hde : decide ((s.length : Int) ≤ (f : Int) + 6 + (k : Int)) = true := by simp; omega
                have hI3 := HI.out.2.2.1
                have HXe : Hid (r = .bad 54 0) := Lib.hid (by
                  rw [← HX.out, unit_at]
                  rcases k with _ | _ | k
                  · rw [if_pos (by omega)]; rfl
                  · have := HI.out.2.2.2 0 (by omega)
                    have e0 : gB s (f + 6) = 92 := this
                    rw [if_neg (by omega), if_neg (by simpa using e0), if_pos (by omega)]; rfl
                  · omega)
                have HN1 := Lib.hid (HNo.out wa s.length (f + 6) HI.out.1)
                have HG3 := Lib.hid HI.out.2.1
                clear HI HNo hend hI3
                go_wp2_with fail
                refine HN1.out.mono ?_
                rintro e w3 ⟨rfl, hs3, hg3⟩
                have HP : Hid (TxP b s a r w (.returned (.string ⟨#[]⟩)) w3) := Lib.hid (by rw [HXe.out]; exact txt_bad HG3.out hg3 hm6 (by simp) hs3)
                clear hs3 hg3
                go_wp2_with fail
                go_ret
                exact HP.out
              · have hde : decide ((s.length : Int) ≤ (f : Int) + 6 + (k : Int)) = false := by simp; omega
                obtain ⟨v, hv⟩ : ∃ v, gB s (f + 6 + k) = v := ⟨_, rfl⟩
                obtain ⟨u, hu⟩ : ∃ u, gB [92, 117] k = u := ⟨_, rfl⟩
                have k0 : ∀ mm : QW wa, mm.val.cell? ⟨b, 0, none⟩ = some (.string ⟨s.toArray⟩) := fun mm => mm.cell x0
                have hix : decide ((f : Int) + 6 + (k : Int) < (s.length : Int)) = true := by simp; omega
                have hiy : decide (f + 6 + k < s.length) = true := by simp; omega
                have hkk : decide (k < 2) = true := by simpa using hlt2
                by_cases hvu : v = u
                · subst hvu
                  have hvv : ((v.toNat : Int) != (v.toNat : Int)) = false := by simp
                  go_upto_region 17 with (fail)
                  refine wp_region_q (by kernel_rfl) (by kernel_rfl) ?_
                  (repeat (go_big_quiet_step (fail)))
                  refine wpQuiet_nil ?_
                  rintro wb ⟨mb, hmb⟩
                  have HQb : Hid (Q wa wb) := Lib.hid (by rw [hmb]; exact mb.le)
                  clear k0 mb hmb hix hiy hkk x0 x2 hr
                  have HN : Hid (ScB wb b s (f + 6) 0 a ∧ GX [b] w wb ∧ f + 6 + (k + 1) ≤ s.length ∧ ∀ j, j < k + 1 → gB s (f + 6 + j) = gB [92, 117] j) := Lib.hid ⟨HI.out.1.q HQb.out, HI.out.2.1.trans (GX.q HQb.out), by omega, fun j hj => by
                    rcases Nat.lt_or_ge j k with h | h
                    · exact HI.out.2.2.2 j h
                    · have : j = k := by omega
                      subst this; rw [hv, hu]⟩
                  clear HI hv hu hend hde
                  go_wp2_with fail
                  go_round
                  case measure => simp [intOf]; omega
                  case rel => exact ⟨k + 1, by omega, by simp, HN⟩
                · have hvv : ((v.toNat : Int) != (u.toNat : Int)) = true := by
                    rw [bne, u8_eq]; simpa using hvu
                  go_upto_region 17 with (fail)
                  refine wp_region_q (by kernel_rfl) (by kernel_rfl) ?_
                  (repeat (go_big_quiet_step (fail)))
                  refine wpQuiet_nil ?_
                  rintro wb ⟨mb, hmb⟩
                  have HQb : Hid (Q wa wb) := Lib.hid (by rw [hmb]; exact mb.le)
                  clear k0 mb hmb hix hiy hkk x0 x2 hr
                  have HXe : Hid (r = .bad 54 (s.length - f)) := Lib.hid (by
                    rw [← HX.out, unit_at]
                    rcases k with _ | _ | k
                    · have e0 : gB s (f + 6) ≠ 92 := by
                        intro e; apply hvu; rw [← hv, ← hu]; exact e
                      rw [if_neg (by omega), if_pos e0]; rfl
                    · have e0 : gB s (f + 6) = 92 := HI.out.2.2.2 0 (by omega)
                      have e1 : gB s (f + 6 + 1) ≠ 117 := by
                        intro e; apply hvu; rw [← hv, ← hu]; exact e
                      rw [if_neg (by omega), if_neg (by simpa using e0), if_neg (by omega), if_pos e1]; rfl
                    · omega)
                  have HN1 := Lib.hid (HNo.out wb f (f + 6) (HI.out.1.q HQb.out))
                  have HG3 := Lib.hid (HI.out.2.1.trans (GX.q HQb.out))
                  clear HI HNo hend hv hu
                  go_wp2_with fail
                  refine HN1.out.mono ?_
                  rintro e w3 ⟨rfl, hs3, hg3⟩
                  have HP : Hid (TxP b s a r w (.returned (.string ⟨#[]⟩)) w3) := Lib.hid (by rw [HXe.out]; exact txt_bad HG3.out hg3 hm6 (by omega) hs3)
                  clear hs3 hg3
                  go_wp2_with fail
                  go_ret
                  exact HP.out
            · have hk : k = 2 := by omega
              subst hk
              have hm8 : f + 8 ≤ s.length := HI.out.2.2.1
              have HF4 := Lib.hid (rfour_any b s (f + 6) (f + 8) 0 a wa HI.out.1 (by omega) (by have := HL.out; omega))
              have hA1 : ((f + 8 : Nat) : Int) = (f : Int) + 8 := by omega
              have HU : Hid (unitR (s.length - f) (s.drop (f + 6)) = fourR (s.length - f) 4 0 (s.drop (f + 8))) := Lib.hid (by
                have e0 : gB s (f + 6) = 92 := HI.out.2.2.2 0 (by omega)
                have e1 : gB s (f + 6 + 1) = 117 := HI.out.2.2.2 1 (by omega)
                rw [unit_at, if_neg (by omega), if_neg (by simpa using e0), if_neg (by omega), if_neg (by simpa using e1)])
              have h4 := four_I (s.length - f) 4 0 (s.drop (f + 8))
              have hlt2 := fourI_lt 4 0 (s.drop (f + 8)) (by decide) (by decide)
              obtain ⟨n2, hn2⟩ : ∃ n2, fourI 4 0 (s.drop (f + 8)) = n2 := ⟨_, rfl⟩
              rw [hn2, hA1] at HF4
              rw [hn2] at h4 hlt2
              have HW := Lib.hid HI.out.1
              have HG3 := Lib.hid HI.out.2.1
              clear HI hA1 hn2 x0 x2
              go_upto_region 20 with (fail)
              go_wp2_with fail
              refine HF4.out.mono ?_
              rintro e w3 ⟨rfl, hq3⟩
              have HG4 := Lib.hid (HG3.out.trans (GX.q hq3))
              have HS3 := Lib.hid (HW.out.q hq3)
              obtain ⟨x0, x1, x2, -⟩ := (HW.out.q hq3).c
              clear hq3 HF4 HW HG3
              rcases h4 with ⟨rfl, h4⟩ | ⟨rfl, h4⟩ | ⟨m2, rfl, h4, hk2⟩
              · have HXe : Hid (r = .bad 54 0) := Lib.hid (by rw [← HX.out, HU.out, h4]; rfl)
                have HN1 := Lib.hid (HNo.out w3 s.length (f + 6) HS3.out)
                clear h4 HNo
                go_wp2_with fail
                refine HN1.out.mono ?_
                rintro e w4 ⟨rfl, hs3, hg3⟩
                have HP : Hid (TxP b s a r w (.returned (.string ⟨#[]⟩)) w4) := Lib.hid (by rw [HXe.out]; exact txt_bad HG4.out hg3 hm6 (by simp) hs3)
                clear hs3 hg3
                go_wp2_with fail
                go_ret
                exact HP.out
              · have HXe : Hid (r = .bad 54 (s.length - f)) := Lib.hid (by rw [← HX.out, HU.out, h4]; rfl)
                have HN1 := Lib.hid (HNo.out w3 f (f + 6) HS3.out)
                clear h4 HNo
                go_wp2_with fail
                refine HN1.out.mono ?_
                rintro e w4 ⟨rfl, hs3, hg3⟩
                have HP : Hid (TxP b s a r w (.returned (.string ⟨#[]⟩)) w4) := Lib.hid (by rw [HXe.out]; exact txt_bad HG4.out hg3 hm6 (by omega) hs3)
                clear hs3 hg3
                go_wp2_with fail
                go_ret
                exact HP.out
              · have hm12 : f + 12 ≤ s.length := by rw [List.length_drop] at hk2; omega
                have hdr : (s.drop (f + 8)).drop 4 = s.drop (f + 12) := by rw [List.drop_drop]
                rw [hdr] at h4
                have HX2 : Hid ((if 56320 ≤ m2 ∧ m2 ≤ 57343 then PR.ok (Lib.encodeRune ((65536 + 1024 * (m - 55296) + (m2 - 56320) : Nat) : Int)) (s.drop (f + 12)) else .bad 54 (s.length - f)) = r) := Lib.hid (by rw [← HX.out, HU.out, h4]; rfl)
                have hmn2 : ((m2 : Int) == -2) = false := by simp
                clear h4 hdr hk2 hr
                by_cases c6 : 56320 ≤ m2
                · have g6 : decide ((m2 : Int) < 56320) = false := by simp; omega
                  by_cases c7 : m2 ≤ 57343
                  · have g7 : decide ((57343 : Int) < (m2 : Int)) = false := by simp; omega
                    have HXe : Hid (r = .ok (Lib.encodeRune ((65536 + 1024 * (m - 55296) + (m2 - 56320) : Nat) : Int)) (s.drop (f + 12))) := Lib.hid (by rw [← HX2.out, if_pos ⟨c6, c7⟩])
                    have HS4 := Lib.hid (HS3.out.atn (f + 12) ((f : Int) + 12) (by omega))
                    have HG5 : Hid (GX [b] w (w3.setCell ⟨b, 1, none⟩ (.int .i64 ((f : Int) + 12)))) := Lib.hid (HG4.out.set (by simp) _ _)
                    have HCh := Lib.hid (rChar_any (65536 + 1024 * (m - 55296) + (m2 - 56320)) (w3.setCell ⟨b, 1, none⟩ (.int .i64 ((f : Int) + 12))) ⟨by omega, by omega⟩)
                    have hcc : ((65536 + 1024 * (m - 55296) + (m2 - 56320) : Nat) : Int) = (65536 + 1024 * ((m : Int) - 55296) + (m2 : Int)) - 56320 := by omega
                    rw [hcc] at HCh HXe
                    have f1 := HS3.out.f 1
                    clear hcc HNo
                    go_wp2_with fail
                    refine HCh.out.mono ?_
                    rintro e w4 ⟨rfl, hq2⟩
                    have HP : Hid (TxP b s a r w (.returned (.string ⟨(Lib.encodeRune ((65536 + 1024 * ((m : Int) - 55296) + (m2 : Int)) - 56320)).toArray⟩)) w4) := Lib.hid (by
                      rw [HXe.out]
                      exact ⟨HG5.out.trans (GX.q hq2), rfl, f + 12, hm12, rfl, HS4.out.q hq2⟩)
                    clear hq2 HCh
                    go_wp2_with fail
                    go_ret
                    exact HP.out
                  · have g7 : decide ((57343 : Int) < (m2 : Int)) = true := by simp; omega
                    have HXe : Hid (r = .bad 54 (s.length - f)) := Lib.hid (by rw [← HX2.out, if_neg (by omega)])
                    have HN1 := Lib.hid (HNo.out w3 f (f + 6) HS3.out)
                    clear HNo
                    go_wp2_with fail
                    refine HN1.out.mono ?_
                    rintro e w4 ⟨rfl, hs3, hg3⟩
                    have HP : Hid (TxP b s a r w (.returned (.string ⟨#[]⟩)) w4) := Lib.hid (by rw [HXe.out]; exact txt_bad HG4.out hg3 hm6 (by omega) hs3)
                    clear hs3 hg3
                    go_wp2_with fail
                    go_ret
                    exact HP.out
                · have g6 : decide ((m2 : Int) < 56320) = true := by simp; omega
                  have HXe : Hid (r = .bad 54 (s.length - f)) := Lib.hid (by rw [← HX2.out, if_neg (by omega)])
                  have HN1 := Lib.hid (HNo.out w3 f (f + 6) HS3.out)
                  clear HNo
                  go_wp2_with fail
                  refine HN1.out.mono ?_
                  rintro e w4 ⟨rfl, hs3, hg3⟩
                  have HP : Hid (TxP b s a r w (.returned (.string ⟨#[]⟩)) w4) := Lib.hid (by rw [HXe.out]; exact txt_bad HG4.out hg3 hm6 (by omega) hs3)
                  clear hs3 hg3
                  go_wp2_with fail
                  go_ret
                  exact HP.out
end Go.Proofs.YtlhhiiemojhjdaaGreatDoor
