/- Texts of this proof, laid into one: KbE, Gy, Byt, KbF, KaJ. -/
import Derived.Test.YtlhhiiemojhjdaaDoorMs02
import Derived.Laws.IdiomStrings
import Derived.Maps.AppendAt
import Derived.Lib.BufferRead
import Derived.Lib.MapLaws
import Derived.Lib.Bytealg
set_option linter.unusedVariables false
set_option linter.unusedSimpArgs false
namespace Go.Proofs.YtlhhiiemojhjdaaDoor
open Go Go.RowKit
def StJ (b : Nat) (s : Txt) (p : Nat) (w W : World) (l : Txt) : Prop := ∃ q, p ≤ q ∧ q ≤ s.length ∧ s.drop q = l ∧ RdB W b s q ∧ GX [b] w W
theorem StJ.q {b : Nat} {s : Txt} {p : Nat} {w W W' : World} {l : Txt} (h : StJ b s p w W l) (hq : Q W W') : StJ b s p w W' l := by
  obtain ⟨q, h1, h2, h3, h4, h5⟩ := h
  exact ⟨q, h1, h2, h3, h4.q hq, h5.reader hq⟩
def NumP (b : Nat) (s : Txt) (p : Nat) (a : PR Unit) (w : World) (e : Ending) (w' : World) : Prop :=
  match a with
  | .ok _ r => (∃ q, p ≤ q ∧ q ≤ s.length ∧ s.drop q = r ∧ RdB w' b s q ∧ e = .returned (.string ⟨(sub s p q).toArray⟩)) ∧ GX [b] w w'
  | .bad c n => Gave b s c n w e w'
theorem eq_byte {v c : UInt8} (h : v = c) : (((v.toNat : Int)) == ((c.toNat : Int))) = true := by rw [h]; simp
theorem ne_byte {v c : UInt8} (h : v ≠ c) : (((v.toNat : Int)) == ((c.toNat : Int))) = false := by
  simp only [beq_eq_false_iff_ne, ne_eq]; intro e; exact h (UInt8.toNat_inj.1 (by omega))
theorem drop_tail {s : Txt} {p : Nat} (h : p < s.length) : (s.drop p).tail = s.drop (p + 1) := by rw [drop_at h]; rfl
theorem lt_of_hd {s : Txt} {p : Nat} (h : hdB (s.drop p) ≠ 0) : p < s.length := by
  rcases Nat.lt_or_ge p s.length with h1 | h1
  · exact h1
  · exact absurd (hd_drop_end h1) h
set_option maxRecDepth 100000 in
theorem number_any (b : Nat) (s : Txt) (p : Nat) (w : World) (h : RdB w b s p) (hp : p ≤ s.length) (hl : s.length ≤ 1000000000) :
    Calls Tryd.prog 67 #[.pointer (some ⟨b, 0, none⟩)] w (NumP b s p (numR (s.drop p)) w) := by
  have H := Lib.hid h
  have HPk := Lib.hid (fun q W (h : RdB W b s q) (hq : q ≤ s.length) => peek_any b s q W h hq (by omega))
  have HDg := Lib.hid (fun q W (h : RdB W b s q) (hq : q ≤ s.length) => digits_any b s q W h hq hl)
  obtain ⟨N, hN⟩ : ∃ N, numR (s.drop p) = N := ⟨_, rfl⟩
  have HN := Lib.hid hN
  rw [hN]
  obtain ⟨v, hv⟩ : ∃ v, hdB (s.drop p) = v := ⟨_, rfl⟩
  have HV := Lib.hid hv
  have hvl : (v.toNat : Int) < 256 := by have := v.toNat_lt; omega
  have HP0 := Lib.hid (HPk.out p w h hp)
  rw [hv] at HP0
  have c1 := h.c1
  clear h hv hN
  go_enter Tryd.func67, Tryd.ntmps67
  go_wp2_with fail
  refine HP0.out.mono ?_
  rintro e w1 ⟨rfl, hq1⟩
  have HR1 := Lib.hid (H.out.q hq1)
  have HQ1 := Lib.hid hq1
  clear hq1 c1 HP0
  have c1 := HR1.out.c1
  have f1 := HR1.out.f 1
  go_upto_if 12 with (fail)
  go_cut [3] (fun s3 wx => s3 = .int .i64 (p : Int) ∧ Hid (StJ b s p w wx (minusR (s.drop p))))
  case first =>
    by_cases hm : v = 45
    · have g1 : (((v.toNat : Int)) == 45) = true := eq_byte hm
      have hlt := lt_of_hd (s := s) (p := p) (by rw [HV.out, hm]; decide)
      have HS : Hid (StJ b s p w (w1.setCell ⟨b, 1, none⟩ (.int .i64 ((p : Int) + 1))) (minusR (s.drop p))) := Lib.hid ⟨p + 1, by omega, hlt, by unfold minusR; rw [HV.out, if_pos hm, drop_tail hlt], by have := HR1.out.set (p + 1); simpa using this, (GX.q HQ1.out).set (by simp) _ _⟩
      clear hm
      go_wp2_with fail
      go_meet
      exact ⟨rfl, HS.out⟩
    · have g1 : (((v.toNat : Int)) == 45) = false := ne_byte hm
      have HS : Hid (StJ b s p w w1 (minusR (s.drop p))) := Lib.hid ⟨p, by omega, hp, by unfold minusR; rw [HV.out, if_neg hm], HR1.out, GX.q HQ1.out⟩
      clear hm
      go_wp2_with fail
      go_meet
      exact ⟨rfl, HS.out⟩
  case rest =>
    obtain ⟨rfl, HS⟩ := hcut
    clear HR1 HQ1 c1 f1 HV hvl
    obtain ⟨l1, hl1⟩ : ∃ l, minusR (s.drop p) = l := ⟨_, rfl⟩
    rw [hl1] at HS
    have HL1 := Lib.hid hl1
    clear hl1
    obtain ⟨q, hpq, hqs, hd, hR, hG⟩ := HS.out
    have HPq := Lib.hid (HPk.out q wc hR hqs)
    rw [hd] at HPq
    obtain ⟨u, hu⟩ : ∃ u, hdB l1 = u := ⟨_, rfl⟩
    rw [hu] at HPq
    have HU := Lib.hid hu
    have HD := Lib.hid hd
    have HR2 := Lib.hid hR
    have HG2 := Lib.hid hG
    clear hd hR hG hu HS
    have hul : (u.toNat : Int) < 256 := by have := u.toNat_lt; omega
    go_wp2_with fail
    refine HPq.out.mono ?_
    rintro e w2 ⟨rfl, hq2⟩
    have HR3 := Lib.hid (HR2.out.q hq2)
    have HG3 := Lib.hid (HG2.out.reader hq2)
    clear hq2 HPq HR2 HG2
    have c1 := HR3.out.c1
    have f1 := HR3.out.f 1
    go_upto_if 22 with (fail)
    go_cut [3] (fun s3 wx => s3 = .int .i64 (p : Int) ∧ ∃ l2, Hid (intR l1 = .ok () l2) ∧ Hid (StJ b s p w wx l2))
    case first =>
      by_cases hm : u = 48
      · have g1 : (((u.toNat : Int)) == 48) = true := eq_byte hm
        have hlt := lt_of_hd (s := s) (p := q) (by rw [HD.out, HU.out, hm]; decide)
        have HI : Hid (intR l1 = .ok () l1.tail) := Lib.hid (by unfold intR; rw [HU.out, if_pos hm])
        have HS : Hid (StJ b s p w (w2.setCell ⟨b, 1, none⟩ (.int .i64 ((q : Int) + 1))) l1.tail) := Lib.hid ⟨q + 1, by omega, hlt, by rw [← HD.out, drop_tail hlt], by have := HR3.out.set (q + 1); simpa using this, HG3.out.set (by simp) _ _⟩
        clear hm
        go_wp2_with fail
        go_meet
        exact ⟨rfl, _, HI, HS⟩
      · have g1 : (((u.toNat : Int)) == 48) = false := ne_byte hm
        have HI : Hid (intR l1 = digR l1) := Lib.hid (by unfold intR; rw [HU.out, if_neg hm])
        have HDq := Lib.hid (HDg.out q w2 HR3.out hqs)
        rw [HD.out] at HDq
        clear hm
        go_wp2_with fail
        refine HDq.out.mono ?_
        intro e w3 hU
        have HW := Lib.hid hU
        clear hU
        obtain ⟨DR, hDR⟩ : ∃ x, digR l1 = x := ⟨_, rfl⟩
        rw [hDR] at HW HI
        have hgd := digR_good l1
        rw [hDR] at hgd
        have HGD := Lib.hid hgd
        clear hgd hDR HDq
        rcases DR with ⟨x, l2⟩ | ⟨c, n⟩
        · obtain ⟨rfl, ⟨q2, k1, k2, k3⟩, k4⟩ := HW.out
          have HS : Hid (StJ b s p w w3 l2) := Lib.hid ⟨q2, by have h1 := List.IsSuffix.length_le HGD.out; rw [← k2, ← HD.out, List.length_drop, List.length_drop] at h1; omega, k1, k2, k3, HG3.out.trans k4⟩
          clear k1 k2 k3 k4
          go_wp2_with fail
          go_meet
          exact ⟨rfl, _, HI, HS⟩
        · obtain ⟨⟨bf, rfl, hf⟩, hg⟩ := HW.out
          have HX : Hid (NumP b s p N w (.panicked [{ v := .iface 76 (.pointer (some ⟨bf, 0, none⟩)), recovered := false }]) w3) := Lib.hid (by
            rw [← HN.out]
            have e : numR (s.drop p) = .bad c n := by unfold numR; rw [HL1.out, HI.out]; rfl
            rw [e]
            exact ⟨⟨bf, rfl, hf⟩, HG3.out.trans hg⟩)
          clear hf hg
          go_wp2_with fail
          exact ⟨rfl, HX.out⟩
    case rest =>
      obtain ⟨rfl, l2, HI, HS⟩ := hcut
      rename World => wf
      have HE2 : Hid (N = (fracR l2).bind fun _ l3 => expR l3) := Lib.hid (by rw [← HN.out]; unfold numR; rw [HL1.out, HI.out]; rfl)
      clear HR3 HG3 c1 f1 HD HU hul HI HL1
      obtain ⟨q2, hpq2, hqs2, hd, hR, hG⟩ := HS.out
      have HPq := Lib.hid (HPk.out q2 wf hR hqs2)
      rw [hd] at HPq
      obtain ⟨u2, hu⟩ : ∃ u, hdB l2 = u := ⟨_, rfl⟩
      rw [hu] at HPq
      have HU := Lib.hid hu
      have HD := Lib.hid hd
      have HR2 := Lib.hid hR
      have HG2 := Lib.hid hG
      clear hd hR hG hu HS
      have hul : (u2.toNat : Int) < 256 := by have := u2.toNat_lt; omega
      go_wp2_with fail
      refine HPq.out.mono ?_
      rintro e w4 ⟨rfl, hq2⟩
      have HR3 := Lib.hid (HR2.out.q hq2)
      have HG3 := Lib.hid (HG2.out.reader hq2)
      clear hq2 HPq HR2 HG2
      have c1 := HR3.out.c1
      have f1 := HR3.out.f 1
      go_upto_if 34 with (fail)
      go_cut [3] (fun s3 wx => s3 = .int .i64 (p : Int) ∧ ∃ l3, Hid (fracR l2 = .ok () l3) ∧ Hid (StJ b s p w wx l3))
      case first =>
        by_cases hm : u2 = 46
        · have g1 : (((u2.toNat : Int)) == 46) = true := eq_byte hm
          have hlt := lt_of_hd (s := s) (p := q2) (by rw [HD.out, HU.out, hm]; decide)
          have HF : Hid (fracR l2 = digR l2.tail) := Lib.hid (by unfold fracR; rw [HU.out, if_pos hm])
          have HT : Hid (s.drop (q2 + 1) = l2.tail) := Lib.hid (by rw [← HD.out, drop_tail hlt])
          have HR4 : Hid (RdB (w4.setCell ⟨b, 1, none⟩ (.int .i64 ((q2 : Int) + 1))) b s (q2 + 1)) := Lib.hid (by have := HR3.out.set (q2 + 1); simpa using this)
          have HG4 : Hid (GX [b] w (w4.setCell ⟨b, 1, none⟩ (.int .i64 ((q2 : Int) + 1)))) := Lib.hid (HG3.out.set (by simp) _ _)
          have HDq := Lib.hid (HDg.out (q2 + 1) _ HR4.out hlt)
          rw [HT.out] at HDq
          clear hm
          go_wp2_with fail
          refine HDq.out.mono ?_
          intro e w5 hU
          have HW := Lib.hid hU
          clear hU c1 f1
          obtain ⟨DR, hDR⟩ : ∃ x, digR l2.tail = x := ⟨_, rfl⟩
          rw [hDR] at HW HF
          have hgd := digR_good l2.tail
          rw [hDR] at hgd
          have HGD := Lib.hid hgd
          clear hgd hDR HDq
          rcases DR with ⟨x, l3⟩ | ⟨c, n⟩
          · obtain ⟨rfl, ⟨q3, k1, k2, k3⟩, k4⟩ := HW.out
            have HS : Hid (StJ b s p w w5 l3) := Lib.hid ⟨q3, by have h1 := List.IsSuffix.length_le HGD.out; rw [← k2, ← HT.out, List.length_drop, List.length_drop] at h1; omega, k1, k2, k3, HG4.out.trans k4⟩
            clear k1 k2 k3 k4
            go_wp2_with fail
            go_meet
            exact ⟨rfl, _, HF, HS⟩
          · obtain ⟨⟨bf, rfl, hf⟩, hg⟩ := HW.out
            have HX : Hid (NumP b s p N w (.panicked [{ v := .iface 76 (.pointer (some ⟨bf, 0, none⟩)), recovered := false }]) w5) := Lib.hid (by
              rw [HE2.out, HF.out]
              exact ⟨⟨bf, rfl, hf⟩, HG4.out.trans hg⟩)
            clear hf hg
            go_wp2_with fail
            exact ⟨rfl, HX.out⟩
        · have g1 : (((u2.toNat : Int)) == 46) = false := ne_byte hm
          have HF : Hid (fracR l2 = .ok () l2) := Lib.hid (by unfold fracR; rw [HU.out, if_neg hm])
          have HS : Hid (StJ b s p w w4 l2) := Lib.hid ⟨q2, hpq2, hqs2, HD.out, HR3.out, HG3.out⟩
          clear hm
          go_wp2_with fail
          go_meet
          exact ⟨rfl, _, HF, HS⟩
      case rest =>
        obtain ⟨rfl, l3, HF, HS⟩ := hcut
        have HE3 : Hid (N = expR l3) := Lib.hid (by rw [HE2.out, HF.out]; rfl)
        rename World => wg
        clear HR3 HG3 c1 f1 HD HU hul HF HE2
        obtain ⟨q3, hpq3, hqs3, hd, hR, hG⟩ := HS.out
        have HPq := Lib.hid (HPk.out q3 wg hR hqs3)
        rw [hd] at HPq
        obtain ⟨u3, hu⟩ : ∃ u, hdB l3 = u := ⟨_, rfl⟩
        rw [hu] at HPq
        have HU := Lib.hid hu
        have HD := Lib.hid hd
        have HR2 := Lib.hid hR
        have HG2 := Lib.hid hG
        clear hd hR hG hu HS
        have hul : (u3.toNat : Int) < 256 := by have := u3.toNat_lt; omega
        go_wp2_with fail
        refine HPq.out.mono ?_
        rintro e w6 ⟨rfl, hq2⟩
        have HR3 := Lib.hid (HR2.out.q hq2)
        have HG3 := Lib.hid (HG2.out.reader hq2)
        clear hq2 HPq HR2 HG2
        have c1 := HR3.out.c1
        have f1 := HR3.out.f 1
        by_cases hm : u3 = 101 ∨ u3 = 69
        rotate_left
        · have g1 : (((u3.toNat : Int)) == 101) = false := ne_byte (fun h => hm (.inl h))
          have g2 : (((u3.toNat : Int)) == 69) = false := ne_byte (fun h => hm (.inr h))
          have HF : Hid (expR l3 = .ok () l3) := Lib.hid (by unfold expR; rw [HU.out, if_neg hm])
          have HS : Hid (StJ b s p w w6 l3) := Lib.hid ⟨q3, hpq3, hqs3, HD.out, HR3.out, HG3.out⟩
          clear hm c1 f1
          obtain ⟨q4, k0, k1, k2, k3, k4⟩ := HS.out
          have HK := Lib.hid (And.intro k2 (And.intro k3 k4))
          have c0 : ∀ mm : QW w6, mm.val.cell? ⟨b, 0, none⟩ = some (.string ⟨s.toArray⟩) := fun mm => mm.cell HK.out.2.1.c0
          have c1 : ∀ mm : QW w6, mm.val.cell? ⟨b, 1, none⟩ = some (.int .i64 (q4 : Int)) := fun mm => mm.cell HK.out.2.1.c1
          clear k2 k3 k4
          go_upto_region 17 with (fail)
          refine wp_region_q (by kernel_rfl) (by kernel_rfl) ?_
          (repeat (go_big_quiet_step (fail)))
          refine wpQuiet_nil ?_
          rintro wz ⟨mz, hmz⟩
          have hqz : Q w6 wz := by rw [hmz]; exact mz.le
          have HZ : Hid (NumP b s p N w (.returned (.string ⟨(sub s p q4).toArray⟩)) wz) := Lib.hid (by
            rw [HE3.out, HF.out]
            exact ⟨⟨q4, k0, k1, HK.out.1, HK.out.2.1.q hqz, rfl⟩, HK.out.2.2.reader hqz⟩)
          clear mz hmz hqz c0 c1
          go_wp2_with fail
          go_ret
          exact HZ.out
        have hlt := lt_of_hd (s := s) (p := q3) (by rw [HD.out, HU.out]; rcases hm with h | h <;> (rw [h]; decide))
        have HF0 : Hid (expR l3 = digR (signR l3.tail)) := Lib.hid (by unfold expR; rw [HU.out, if_pos hm])
        have HT : Hid (s.drop (q3 + 1) = l3.tail) := Lib.hid (by rw [← HD.out, drop_tail hlt])
        have HR4 : Hid (RdB (w6.setCell ⟨b, 1, none⟩ (.int .i64 ((q3 : Int) + 1))) b s (q3 + 1)) := Lib.hid (by have := HR3.out.set (q3 + 1); simpa using this)
        have HG4 : Hid (GX [b] w (w6.setCell ⟨b, 1, none⟩ (.int .i64 ((q3 : Int) + 1)))) := Lib.hid (HG3.out.set (by simp) _ _)
        have HPs := Lib.hid (HPk.out (q3 + 1) _ HR4.out hlt)
        rw [HT.out] at HPs
        obtain ⟨u5, hu5⟩ : ∃ u, hdB l3.tail = u := ⟨_, rfl⟩
        rw [hu5] at HPs
        have HU5 := Lib.hid hu5
        clear hu5
        have hul5 : (u5.toNat : Int) < 256 := by have := u5.toNat_lt; omega
        have hg : (((u3.toNat : Int)) == 101) = true ∨ ((((u3.toNat : Int)) == 101) = false ∧ (((u3.toNat : Int)) == 69) = true) := by
          by_cases h1 : u3 = 101
          · exact .inl (eq_byte h1)
          · exact .inr ⟨ne_byte h1, eq_byte (hm.resolve_left h1)⟩
        clear hm
        rcases hg with g1 | ⟨g1, g2⟩
        all_goals
          go_wp2_with fail
          refine HPs.out.mono ?_
          rintro e w7 ⟨rfl, hq7⟩
          have HR7 := Lib.hid (HR4.out.q hq7)
          have HG7 := Lib.hid (HG4.out.reader hq7)
          clear hq7 HPs c1 f1
          have c1 := HR7.out.c1
          have f1 := HR7.out.f 1
          by_cases hs : u5 = 43 ∨ u5 = 45
          · have hlt2 := lt_of_hd (s := s) (p := q3 + 1) (by rw [HT.out, HU5.out]; rcases hs with h | h <;> (rw [h]; decide))
            have HF : Hid (expR l3 = digR l3.tail.tail) := Lib.hid (by rw [HF0.out]; unfold signR; rw [HU5.out, if_pos hs])
            have HTT : Hid (s.drop (q3 + 1 + 1) = l3.tail.tail) := Lib.hid (by rw [← HT.out, drop_tail hlt2])
            have HR8 : Hid (RdB (w7.setCell ⟨b, 1, none⟩ (.int .i64 ((q3 : Int) + 1 + 1))) b s (q3 + 1 + 1)) := Lib.hid (by have := HR7.out.set (q3 + 1 + 1); simpa using this)
            have HG8 : Hid (GX [b] w (w7.setCell ⟨b, 1, none⟩ (.int .i64 ((q3 : Int) + 1 + 1)))) := Lib.hid (HG7.out.set (by simp) _ _)
            have HDq := Lib.hid (HDg.out (q3 + 1 + 1) _ HR8.out hlt2)
            rw [HTT.out] at HDq
            have hg2 : (((u5.toNat : Int)) == 43) = true ∨ ((((u5.toNat : Int)) == 43) = false ∧ (((u5.toNat : Int)) == 45) = true) := by
              by_cases h1 : u5 = 43
              · exact .inl (eq_byte h1)
              · exact .inr ⟨ne_byte h1, eq_byte (hs.resolve_left h1)⟩
            clear hs
            rcases hg2 with g3 | ⟨g3, g4⟩
            all_goals
              go_wp2_with fail
              refine HDq.out.mono ?_
              intro e w8 hU
              have HW := Lib.hid hU
              clear hU
              obtain ⟨DR, hDR⟩ : ∃ x, digR l3.tail.tail = x := ⟨_, rfl⟩
              rw [hDR] at HW HF
              have hgd := digR_good l3.tail.tail
              rw [hDR] at hgd
              have HGD := Lib.hid hgd
              clear hgd hDR HDq
              rcases DR with ⟨x, l4⟩ | ⟨c, n⟩
              rotate_left
              · obtain ⟨⟨bf, rfl, hf⟩, hg⟩ := HW.out
                have HX : Hid (NumP b s p N w (.panicked [{ v := .iface 76 (.pointer (some ⟨bf, 0, none⟩)), recovered := false }]) w8) := Lib.hid (by
                  rw [HE3.out, HF.out]
                  exact ⟨⟨bf, rfl, hf⟩, HG8.out.trans hg⟩)
                clear hf hg
                go_wp2_with fail
                exact ⟨rfl, HX.out⟩
              obtain ⟨rfl, ⟨q9, k1, k2, k3⟩, k4⟩ := HW.out
              have HS : Hid (StJ b s p w w8 l4) := Lib.hid ⟨q9, by have h1 := List.IsSuffix.length_le HGD.out; rw [← k2, ← HTT.out, List.length_drop, List.length_drop] at h1; omega, k1, k2, k3, HG8.out.trans k4⟩
              clear k1 k2 k3 k4
              obtain ⟨q4, k0, k1, k2, k3, k4⟩ := HS.out
              have HK := Lib.hid (And.intro k2 (And.intro k3 k4))
              have c0 : ∀ mm : QW w8, mm.val.cell? ⟨b, 0, none⟩ = some (.string ⟨s.toArray⟩) := fun mm => mm.cell HK.out.2.1.c0
              have c1 : ∀ mm : QW w8, mm.val.cell? ⟨b, 1, none⟩ = some (.int .i64 (q4 : Int)) := fun mm => mm.cell HK.out.2.1.c1
              clear k2 k3 k4
              go_upto_region 17 with (fail)
              refine wp_region_q (by kernel_rfl) (by kernel_rfl) ?_
              (repeat (go_big_quiet_step (fail)))
              refine wpQuiet_nil ?_
              rintro wz ⟨mz, hmz⟩
              have hqz : Q w8 wz := by rw [hmz]; exact mz.le
              have HZ : Hid (NumP b s p N w (.returned (.string ⟨(sub s p q4).toArray⟩)) wz) := Lib.hid (by
                rw [HE3.out, HF.out]
                exact ⟨⟨q4, k0, k1, HK.out.1, HK.out.2.1.q hqz, rfl⟩, HK.out.2.2.reader hqz⟩)
              clear mz hmz hqz c0 c1
              go_wp2_with fail
              go_ret
              exact HZ.out
          · have g3 : (((u5.toNat : Int)) == 43) = false := ne_byte (fun h => hs (.inl h))
            have g4 : (((u5.toNat : Int)) == 45) = false := ne_byte (fun h => hs (.inr h))
            have HF : Hid (expR l3 = digR l3.tail) := Lib.hid (by rw [HF0.out]; unfold signR; rw [HU5.out, if_neg hs])
            have HTT : Hid (s.drop (q3 + 1) = l3.tail) := Lib.hid HT.out
            have HDq := Lib.hid (HDg.out (q3 + 1) _ HR7.out hlt)
            rw [HTT.out] at HDq
            clear hs
            go_wp2_with fail
            refine HDq.out.mono ?_
            intro e w8 hU
            have HW := Lib.hid hU
            clear hU
            obtain ⟨DR, hDR⟩ : ∃ x, digR l3.tail = x := ⟨_, rfl⟩
            rw [hDR] at HW HF
            have hgd := digR_good l3.tail
            rw [hDR] at hgd
            have HGD := Lib.hid hgd
            clear hgd hDR HDq
            rcases DR with ⟨x, l4⟩ | ⟨c, n⟩
            rotate_left
            · obtain ⟨⟨bf, rfl, hf⟩, hg⟩ := HW.out
              have HX : Hid (NumP b s p N w (.panicked [{ v := .iface 76 (.pointer (some ⟨bf, 0, none⟩)), recovered := false }]) w8) := Lib.hid (by
                rw [HE3.out, HF.out]
                exact ⟨⟨bf, rfl, hf⟩, HG7.out.trans hg⟩)
              clear hf hg
              go_wp2_with fail
              exact ⟨rfl, HX.out⟩
            obtain ⟨rfl, ⟨q9, k1, k2, k3⟩, k4⟩ := HW.out
            have HS : Hid (StJ b s p w w8 l4) := Lib.hid ⟨q9, by have h1 := List.IsSuffix.length_le HGD.out; rw [← k2, ← HTT.out, List.length_drop, List.length_drop] at h1; omega, k1, k2, k3, HG7.out.trans k4⟩
            clear k1 k2 k3 k4
            obtain ⟨q4, k0, k1, k2, k3, k4⟩ := HS.out
            have HK := Lib.hid (And.intro k2 (And.intro k3 k4))
            have c0 : ∀ mm : QW w8, mm.val.cell? ⟨b, 0, none⟩ = some (.string ⟨s.toArray⟩) := fun mm => mm.cell HK.out.2.1.c0
            have c1 : ∀ mm : QW w8, mm.val.cell? ⟨b, 1, none⟩ = some (.int .i64 (q4 : Int)) := fun mm => mm.cell HK.out.2.1.c1
            clear k2 k3 k4
            go_upto_region 17 with (fail)
            refine wp_region_q (by kernel_rfl) (by kernel_rfl) ?_
            (repeat (go_big_quiet_step (fail)))
            refine wpQuiet_nil ?_
            rintro wz ⟨mz, hmz⟩
            have hqz : Q w8 wz := by rw [hmz]; exact mz.le
            have HZ : Hid (NumP b s p N w (.returned (.string ⟨(sub s p q4).toArray⟩)) wz) := Lib.hid (by
              rw [HE3.out, HF.out]
              exact ⟨⟨q4, k0, k1, HK.out.1, HK.out.2.1.q hqz, rfl⟩, HK.out.2.2.reader hqz⟩)
            clear mz hmz hqz c0 c1
            go_wp2_with fail
            go_ret
            exact HZ.out
end Go.Proofs.YtlhhiiemojhjdaaDoor
set_option linter.unusedVariables false
namespace Go.Proofs.YtlhhiiemojhjdaaDoor
open Go Go.RowKit
def u8V (x : UInt8) : Value := .int .u8 (x.toNat : Int)
def arrB (b : List UInt8) : Array Value := (b.map u8V).toArray
theorem Q.gb {w w' : World} (h : Q w w') (row : Option Nat) : w.grownBy w' row := ⟨h.os, h.tape, h.output, h.size, fun k hk _ => Below.block h k hk⟩
theorem gb_trans {a b c : World} {row : Option Nat} (h : a.grownBy b row) (k : b.grownBy c row) : a.grownBy c row :=
  ⟨k.os.trans h.os, k.tape.trans h.tape, k.output.trans h.output, Nat.le_trans h.size k.size, fun i hi hr => (k.block i (Nat.lt_of_lt_of_le hi h.size) hr).trans (h.block i hi hr)⟩
theorem gb_set {a b : World} {g : Nat} (h : a.grownBy b (some g)) (i : Nat) (v : Value) : a.grownBy (b.setCell ⟨g, i, none⟩ v) (some g) :=
  ⟨h.os, h.tape, h.output, by simpa using h.size, fun k hk hr => by
    rw [heap_setCell_other b ⟨g, i, none⟩ k v (by intro e; exact hr (by rw [e]))]; exact h.block k hk hr⟩
end Go.Proofs.YtlhhiiemojhjdaaDoor
set_option linter.unusedVariables false
namespace Go.Proofs.YtlhhiiemojhjdaaDoor
open Go Go.RowKit
def OwnB (w0 w : World) (v : Value) (b : List UInt8) : Prop :=
  (v = .slice none 0 0 ∧ b = []) ∨
  ∃ g cap cur fz, v = .slice (some ⟨g, 0, none⟩) b.length cap ∧ w0.heap.size ≤ g ∧ w.heap[g]? = some (.cells cur 5 fz) ∧ (fz.2 = 0 ∨ cur.size ≤ fz.1) ∧ b.length ≤ cap ∧ cap ≤ maxLen ∧ cur.size = cap ∧ cur.toList.take b.length = b.map u8V
theorem OwnB.nil (w0 w : World) : OwnB w0 w (.slice none 0 0) [] := .inl ⟨rfl, rfl⟩
theorem OwnB.g {w0 w w' : World} {v : Value} {b : List UInt8} {row : Option Nat} (h : OwnB w0 w v b) (hg : w.grownBy w' row) (hr : ∀ k, v.ownBlock = some k → row ≠ some k) : OwnB w0 w' v b := by
  rcases h with h | ⟨g, cap, cur, fz, hv, h1, h2, h3⟩
  · exact .inl h
  · refine .inr ⟨g, cap, cur, fz, hv, h1, ?_, h3⟩
    rw [hg.block g (lt_of_heap h2) (by intro e; exact hr g (by rw [hv]; rfl) e.symm)]
    exact h2
theorem OwnB.q {w0 w w' : World} {v : Value} {b : List UInt8} (h : OwnB w0 w v b) (hq : Q w w') : OwnB w0 w' v b := h.g (hq.gb none) (by simp)
theorem OwnB.base {w0 w1 w : World} {v : Value} {b : List UInt8} (h : OwnB w1 w v b) (hq : w0.heap.size ≤ w1.heap.size) : OwnB w0 w v b := by
  rcases h with h | ⟨g, cap, cur, fz, hv, h1, h2⟩
  · exact .inl h
  · exact .inr ⟨g, cap, cur, fz, hv, by omega, h2⟩
theorem OwnB.block {w0 w : World} {v : Value} {b : List UInt8} (h : OwnB w0 w v b) {k : Nat} (hk : v.ownBlock = some k) : w0.heap.size ≤ k := by
  rcases h with ⟨rfl, _⟩ | ⟨g, cap, cur, fz, rfl, h1, _⟩
  · cases hk
  · simp [Value.ownBlock] at hk; omega
theorem OwnB.of_row {w0 w : World} {v : Value} {b : List UInt8} (h : w.ownsRow w0.heap.size 5 1 v b.length (b.map u8V)) : OwnB w0 w v b := by
  rcases h.2 with ⟨rfl, h0⟩ | ⟨g, cap, cur, rfl, hb, hh, hn, hm, hcs, ht⟩
  · exact .inl ⟨rfl, List.eq_nil_of_length_eq_zero h0⟩
  · exact .inr ⟨g, cap, cur, (0, 0), rfl, hb, hh, .inl rfl, hn, hm, by omega, by rw [Nat.mul_one] at ht; exact ht⟩
theorem info_u8 : (Tryd.prog.info? 5).map (fun i => (i.zero, i.size, i.bytes)) = some (some (.int .u8 0), 1, 1) := by kernel_rfl
theorem heap_setCell_any (w : World) (g i : Nat) (cs : Array Value) (t : TypeId) (fz : Nat × Nat) (v : Value) (hg : w.heap[g]? = some (.cells cs t fz)) :
    (w.setCell ⟨g, i, none⟩ v).heap[g]? = some (.cells (cs.setIfInBounds i v) t fz) := by
  simp [World.setCell, Array.getElem?_modify, hg]
theorem heap_setCells (g : Nat) (t : TypeId) (fz : Nat × Nat) (vs : List Value) : ∀ (o : Nat) (w : World) (cur : Array Value), w.heap[g]? = some (.cells cur t fz) → o + vs.length ≤ cur.size →
    (w.setCells g o vs).heap[g]? = some (.cells (cur.toList.take o ++ vs ++ cur.toList.drop (o + vs.length)).toArray t fz) := by
  induction vs with
  | nil => intro o w cur h _; simpa [World.setCells] using h
  | cons v r ih =>
    intro o w cur h ho
    simp only [List.length_cons] at ho
    rw [World.setCells, ih (o + 1) _ _ (heap_setCell_any w g o cur t fz v h) (by simp; omega)]
    congr 2
    rw [← Array.toList_inj]
    simp only [Array.toList_setIfInBounds]
    have ho' : o < cur.toList.length := by simp; omega
    rw [List.set_eq_take_append_cons_drop, if_pos ho']
    rw [List.take_append, List.drop_append, List.length_take, Nat.min_eq_left (by omega)]
    simp only [show o + 1 - o = 1 from by omega, List.take_succ_cons, List.take_zero, show o + 1 + r.length - o = r.length + 1 from by omega, List.drop_succ_cons, List.drop_drop, List.length_cons]
    rw [List.take_take, Nat.min_eq_right (by omega), List.drop_of_length_le (l := List.take o cur.toList) (by simp; omega)]
    simp [Nat.add_comm, Nat.add_left_comm]
theorem setCells_gb (g : Nat) (vs : List Value) : ∀ (o : Nat) (w : World), w.grownBy (w.setCells g o vs) (some g) := by
  induction vs with
  | nil => intro o w; exact ⟨rfl, rfl, rfl, Nat.le_refl _, fun _ _ _ => rfl⟩
  | cons v r ih => intro o w; exact gb_trans (gb_set ⟨rfl, rfl, rfl, Nat.le_refl _, fun _ _ _ => rfl⟩ o v) (ih (o + 1) _)
theorem frozen_any {w : World} {g i : Nat} {cur : Array Value} {t : TypeId} {fz : Nat × Nat} (h : w.heap[g]? = some (.cells cur t fz)) (hf : fz.2 = 0 ∨ cur.size ≤ fz.1) (hi : i < cur.size) : w.frozen? ⟨g, i, none⟩ = false := by
  unfold World.frozen?
  rw [h]
  simp only [Bool.and_eq_false_iff, decide_eq_false_iff_not]
  omega
theorem next_le {need old : Nat} (h : old < need) : Builtin.nextslicecap need old ≤ need + need / 4 + 512 := by
  unfold Builtin.nextslicecap
  split
  · omega
  · split
    · omega
    · rw [growBy_four]
      repeat' split
      all_goals omega
theorem next_fits {need old : Nat} (h : old < need) (hb : need ≤ 211106232532992) : Builtin.nextslicecap need old * 1 ≤ 281474976710656 := by
  have := next_le h
  omega
theorem run_append_b (w0 w : World) (v : Value) (b : List UInt8) (ty : TypeId) (hown : OwnB w0 w v b) (ad : Addr) (m c : Nat) (news : List UInt8) (hm : news.length = m) (hnews : ∀ j (h : j < news.length), w.cell? (ad.add j) = some (u8V news[j]))
    (hb : b.length + m ≤ 211106232532992 ∧ m ≤ 140737488355328) (hw : w0.heap.size ≤ w.heap.size) :
    ∃ v' w', (Builtin.append_ #[68, 68] ty #[v, .slice (some ad) m c]).run Tryd.prog w = .ok v' w' ∧ OwnB w0 w' v' (b ++ news) ∧ w.grownBy w' v.ownBlock ∧ (v'.ownBlock = v.ownBlock ∨ v'.ownBlock = some w.heap.size) := by
  obtain ⟨i, hi, hz, hsz, hby⟩ := info_parts info_u8
  have hn2 : ∀ j u, (news.map u8V)[j]? = some u → w.cell? (ad.add j) = some u := by
    intro j u hu
    have hj : j < news.length := by have := (List.getElem?_eq_some_iff.1 hu).1; simpa using this
    rw [hnews j hj]
    rw [List.getElem?_map, List.getElem?_eq_getElem hj] at hu
    exact hu
  have h1 : ∀ u ∈ news.map u8V, u.oneCell' = true := by
    intro u hu
    obtain ⟨x, _, rfl⟩ := List.mem_map.1 hu
    rfl
  rcases hown with ⟨rfl, rfl⟩ | ⟨g, cap, cur, fz, rfl, hbg, hg, hfz, hnc, hcm, hcs, htake⟩
  · obtain ⟨v', w', r1, r2, r3, _, r5⟩ := run_append_own_at (P := Tryd.prog) w w.heap.size 68 ty 5 i (.int .u8 0) 1 1 Tryd.underlying68 hi hz hsz hby rfl (by decide) (.slice none 0 0) 0 [] (World.ownsRow_nil _ _ _ _) ad m c (news.map u8V) (by simp [hm]) hn2 h1 (by unfold maxLen; simp only [List.length_nil] at hb; omega) (by simp only [List.length_nil] at hb; omega) (Nat.le_refl _)
    have r2' : w'.ownsRow w.heap.size 5 1 v' news.length (news.map u8V) := by rw [hm]; simpa using r2
    exact ⟨v', w', r1, (OwnB.of_row r2').base hw, r3, r5⟩
  · by_cases hroom : b.length + m ≤ cap
    · have hf := run_firstCells_some (P := Tryd.prog) w i.size m ad m c (news.map u8V) (by simp [hm, hsz]) hn2
      have hcur : ∀ j, j < cur.size → (w.cell? ⟨g, j, none⟩).isSome = true := fun j hj => by rw [cell_of_row w g j cur _ fz hg, Array.getElem?_eq_getElem hj]; rfl
      have hst := run_storeCells_cells (P := Tryd.prog) g b.length (news.map u8V) 0 w (fun j hj => by simp at hj; simpa using hcur (b.length + j) (by omega)) (fun j hj => by simp at hj; simpa using frozen_any hg hfz (i := b.length + j) (by omega)) h1
      have hrun : (Builtin.append_ #[68, 68] ty #[.slice (some ⟨g, 0, none⟩) b.length cap, .slice (some ad) m c]).run Tryd.prog w = .ok (.slice (some ⟨g, 0, none⟩) (b.length + m) cap) (w.setCells g b.length (news.map u8V)) := by
        simp only [Nat.add_zero] at hst
        rw [hsz] at hf
        simp [Builtin.append_, run_underlying Tryd.underlying68, sizeOf, typeInfo, hi, Builtin.lenOf, hroom, hf, Addr.add_lit, hsz] at hst ⊢
        rw [hst]
        rfl
      have hh := heap_setCells g 5 fz (news.map u8V) b.length w cur hg (by simp; omega)
      have hcl : b.length ≤ cur.toList.length := by simp; omega
      refine ⟨_, _, hrun, .inr ⟨g, cap, _, fz, by simp [hm], hbg, hh, ?_, by simp [hm]; omega, hcm, ?_, ?_⟩, setCells_gb g _ _ _, .inl rfl⟩
      · rcases hfz with h | h
        · exact .inl h
        · right; simp; omega
      · simp; omega
      · have hl : (b ++ news).length = (b.map u8V ++ news.map u8V).length := by simp
        rw [hl, htake, List.take_left', List.map_append]
        rfl
    · have holds : ∀ j u, (b.map u8V)[j]? = some u → w.cell? ((⟨g, 0, none⟩ : Addr).add j) = some u := by
        intro j u hu
        have hj : j < b.length := by have := (List.getElem?_eq_some_iff.1 hu).1; simpa using this
        rw [add_off, Nat.zero_add, cell_of_row w g j cur _ fz hg]
        rw [← htake, List.getElem?_take, if_pos hj] at hu
        simpa using hu
      have hr := run_append_grow (P := Tryd.prog) w 68 ty 5 i (.int .u8 0) Tryd.underlying68 hi hz ⟨g, 0, none⟩ b.length cap (b.map u8V) (by simp [hsz]) holds ad m c (news.map u8V) (by simp [hm, hsz]) hn2 (by omega) (by omega) (by rw [hby]; exact next_fits (by omega) hb.1)
      have hge := grownCap_ge w (b.length + m) cap 5
      have hcm2 : grownCap w (b.length + m) cap 5 ≤ maxLen := grownCap_le_maxLen w (b.length + m) cap 5 (by unfold maxLen; omega)
      refine ⟨_, _, hr, .inr ⟨w.heap.size, _, _, (0, 0), by simp [hm], hw, heap_alloc_new w.drew _, .inl rfl, by simp [hm]; omega, hcm2, ?_, ?_⟩, ⟨rfl, rfl, rfl, by simp, fun k hk _ => Below.heap_alloc w.drew _ k hk⟩, .inr rfl⟩
      · simp only [Array.size_append, List.size_toArray, size_zeroCells, List.length_map, hm]
        rw [show (Value.int IntKind.u8 0).cells.size = 1 from rfl]
        omega
      · have hl : (b ++ news).length = (b.map u8V ++ news.map u8V).length := by simp
        simp only [Array.toList_append, List.append_assoc]
        rw [← List.append_assoc, hl, List.take_left', List.map_append]
        rfl
theorem gb_q_own {w0 W w' : World} {v : Value} (hg : W.grownBy w' v.ownBlock) (hq : Q w0 W) (hv : ∀ k, v.ownBlock = some k → w0.heap.size ≤ k) : Q w0 w' :=
  Q.below hq ⟨hg.os, hg.tape, hg.output, by have := hg.size; have := hq.size; omega, fun k hk => hg.block k (Nat.lt_of_lt_of_le hk hq.size) (fun e => by have := hv k e.symm; omega)⟩
theorem wpList_append_b {ops : Array Oper} {rest : List Oper} {o : Oper} {a : Act} {R : Exit → Act → World → Prop} (hgd : o.guard = none) (s x : Operand)
    (ho : o.op = .call { callee := .builtin .append, args := #[s, x], argTypes := #[68, 68] })
    (w0 W : World) (v : Value) (b : List UInt8) (hs : a.eval s = v) (hown : OwnB w0 W v b) (hq : Q w0 W) (news : List UInt8) (n : Nat) (hn : news.length = n) (hx : a.eval x = .slice (some ⟨W.heap.size, 0, none⟩) n n) (hb : b.length + n ≤ 211106232532992 ∧ n ≤ 140737488355328)
    (h : ∀ v' w', OwnB w0 w' v' (b ++ news) → Q w0 w' → (W.grownBy w' v.ownBlock ∧ (v'.ownBlock = v.ownBlock ∨ v'.ownBlock = some (W.heap.size + 1))) → wpList Tryd.prog ops R rest (a.put o.dst v') w') : wpList Tryd.prog ops R (o :: rest) a (W.alloc (.cells (arrB news) 5)) := by
  have hq1 := hq.alloc (.cells (arrB news) 5)
  have hA : ∀ k, v.ownBlock = some k → w0.heap.size ≤ k := fun k hk => hown.block hk
  have hown1 : OwnB w0 (W.alloc (.cells (arrB news) 5)) v b := hown.q ((Q.refl W).alloc _)
  obtain ⟨v', w', hr, h2, h3, h4⟩ := run_append_b w0 _ v b o.type hown1 ⟨W.heap.size, 0, none⟩ n n news hn (fun j hj => by
    rw [add_off, Nat.zero_add, cell_of_row _ _ _ _ _ _ (heap_alloc_new W _)]
    simp [arrB, hj]) hb hq1.size
  refine wpList_plain hgd fun K hK => ?_
  unfold Oper.wp execOp
  simp only [ho, resolve, invoke, builtin, Sem.run_bind, Sem.run_pure, Result.andThen_ok, List.map_toArray, List.map_cons, List.map_nil, hs, hx, hr]
  exact hK _ _ (h v' w' h2 (gb_q_own h3 hq1 hA) ⟨gb_trans (World.grownBy_alloc W _ _) h3, by simpa using h4⟩)
theorem conv_b {w0 w : World} {v : Value} {b : List UInt8} (h : OwnB w0 w v b) : (convert 68 9 v).run Tryd.prog w = .ok (.string ⟨b.toArray⟩) w := by
  rcases h with ⟨rfl, rfl⟩ | ⟨g, cap, cur, fz, rfl, hbg, hg, hfz, hnc, hcm, hcs, htake⟩
  · have := Lib.run_convert_nil_bytes (P := Tryd.prog) w 68 9 5 0 Tryd.underlying68 Tryd.underlying5 Tryd.underlying9
    rw [this]
  · refine run_convert_bytes_back (P := Tryd.prog) w 68 9 5 ⟨g, 0, none⟩ cap b Tryd.underlying68 Tryd.underlying5 Tryd.underlying9 ?_
    intro i hi
    rw [add_off, Nat.zero_add, cell_of_row w g i cur _ fz hg]
    have e : cur[i]? = (b.map u8V)[i]? := by rw [← htake, List.getElem?_take, if_pos hi, Array.getElem?_toList]
    rw [e]
    simp [u8V, hi]
theorem bytes_of (l : List UInt8) (w : World) (hl : l.length ≤ 9223372036854775807) : ∃ v w', (convert 9 68 (.string ⟨l.toArray⟩)).run Tryd.prog w = .ok v w' ∧ OwnB w w' v l ∧ Q w w' ∧ ∃ cap, v = .slice (some ⟨w.heap.size, 0, none⟩) l.length cap := by
  have hr := run_bytes_of_string (P := Tryd.prog) w 9 68 5 ⟨l.toArray⟩ Tryd.underlying9 Tryd.underlying68 Tryd.underlying5
  have hsz : (ByteArray.mk l.toArray).size = l.length := rfl
  have hge := grownCap_ge w l.length 0 5
  have hcm2 := grownCap_le_maxLen w l.length 0 5 (by unfold maxLen; omega)
  rw [hsz] at hr
  refine ⟨_, _, hr, .inr ⟨w.heap.size, _, _, _, rfl, Nat.le_refl _, heap_alloc_new w.drew _, .inr (Nat.le_refl _), hge, hcm2, ?_, ?_⟩, (Q.refl w).drew.alloc _, _, rfl⟩
  · simp [bytesRow, hsz]; omega
  · simp [bytesRow, u8V]
theorem OwnB.form {w0 w : World} {v : Value} {b : List UInt8} (h : OwnB w0 w v b) : ∃ A cap, v = .slice A b.length cap ∧ b.length ≤ cap ∧ cap ≤ maxLen ∧ (A = none → b = []) ∧ ∀ ad, A = some ad → w0.heap.size ≤ ad.block ∧ ad = ⟨ad.block, 0, none⟩ ∧
    (∀ i, i < b.length → w.cell? ⟨ad.block, i, none⟩ = some (.int .u8 ((gB b i).toNat : Int)) ∧ w.frozen? ⟨ad.block, i, none⟩ = false) := by
  rcases h with ⟨rfl, rfl⟩ | ⟨g, cap, cur, fz, rfl, hbg, hg, hfz, hnc, hcm, hcs, htake⟩
  · exact ⟨none, 0, rfl, Nat.le_refl _, by unfold maxLen; omega, fun _ => rfl, fun ad h => by cases h⟩
  · refine ⟨_, cap, rfl, hnc, hcm, fun h => (by cases h), fun ad h => ?_⟩
    cases h
    refine ⟨hbg, rfl, fun i hi => ⟨?_, frozen_any hg hfz (by omega)⟩⟩
    show w.cell? ⟨g, i, none⟩ = _
    rw [cell_of_row w g i cur _ fz hg]
    have e : cur[i]? = (b.map u8V)[i]? := by rw [← htake, List.getElem?_take, if_pos hi, Array.getElem?_toList]
    rw [e]
    simp [u8V, gB, List.getD, hi]
theorem OwnB.pos {w0 w : World} {v : Value} {b : List UInt8} (h : OwnB w0 w v b) (hb : 0 < b.length) : ∃ g cap, v = .slice (some ⟨g, 0, none⟩) b.length cap ∧ w0.heap.size ≤ g ∧ b.length ≤ cap ∧ cap ≤ maxLen ∧
    ∀ i, i < b.length → w.cell? ⟨g, i, none⟩ = some (.int .u8 ((gB b i).toNat : Int)) ∧ w.frozen? ⟨g, i, none⟩ = false := by
  obtain ⟨A, cap, hv, h1, h2, h3, h4⟩ := h.form
  cases A with
  | none => rw [h3 rfl] at hb; cases hb
  | some ad =>
    obtain ⟨h5, h6, h7⟩ := h4 ad rfl
    exact ⟨ad.block, cap, by rw [hv, ← h6], h5, h1, h2, h7⟩
theorem OwnB.set {w0 w : World} {g n cap : Nat} {b : List UInt8} (h : OwnB w0 w (.slice (some ⟨g, 0, none⟩) n cap) b) (i : Nat) (x : UInt8) : OwnB w0 (w.setCell ⟨g, i, none⟩ (.int .u8 (x.toNat : Int))) (.slice (some ⟨g, 0, none⟩) n cap) (b.set i x) := by
  rcases h with ⟨h, _⟩ | ⟨g', cap', cur, fz, hv, hbg, hg, hfz, hnc, hcm, hcs, htake⟩
  · cases h
  · cases hv
    refine .inr ⟨g, cap, _, fz, by simp, hbg, heap_setCell_any w g i cur _ fz _ hg, ?_, by simpa using hnc, hcm, by simpa using hcs, ?_⟩
    · rcases hfz with h | h
      · exact .inl h
      · right; simpa using h
    · simp only [Array.toList_setIfInBounds, List.length_set]
      rw [List.take_set, htake, List.map_set]
      rfl
end Go.Proofs.YtlhhiiemojhjdaaDoor
set_option linter.unusedVariables false
set_option linter.unusedSimpArgs false
namespace Go.Proofs.YtlhhiiemojhjdaaDoor
open Go Go.RowKit
theorem gB_drop (l : Txt) (i : Nat) (h : i < l.length) : l.drop i = gB l i :: l.drop (i + 1) := drop_at h
theorem GX.cellJ {S : List Nat} {a b : World} (h : GX S a b) {p : Addr} {v : Value} (hk : p.block ∉ S) (hc : a.cell? p = some v) : b.cell? p = some v := by
  have hlt := lt_of_cell hc
  unfold World.cell? at *
  rw [h.block _ hlt hk]; exact hc
def WordSt (b : Nat) (s : Txt) (N : PR Unit) (wd : Txt) (i : Nat) (w W : World) : Prop := ∃ q, q ≤ s.length ∧ RdB W b s q ∧ GX [b] w W ∧ N = wordR (wd.drop i) (s.drop q)
set_option maxRecDepth 100000 in
theorem word_any (b : Nat) (s : Txt) (p : Nat) (wd : Txt) (w : World) (h : RdB w b s p) (hp : p ≤ s.length) (hl : s.length ≤ 1000000000) (hw : wd.length ≤ 1000) :
    Calls Tryd.prog 77 #[.pointer (some ⟨b, 0, none⟩), .string ⟨wd.toArray⟩] w (UnitP b s (wordR wd (s.drop p)) w) := by
  obtain ⟨v, w1, hcv, hown, hq1, cap, rfl⟩ := bytes_of wd w (by omega)
  obtain ⟨N, hN⟩ : ∃ N, wordR wd (s.drop p) = N := ⟨_, rfl⟩
  rw [hN]
  have HS : Hid (WordSt b s N wd 0 w w1) := Lib.hid ⟨p, hp, h.q hq1, GX.q hq1, hN.symm⟩
  have HG := Lib.hid (GX.refl [b] w1)
  have HOW := Lib.hid hown
  have HB := Lib.hid h.lt
  clear h hN hown hq1
  go_enter Tryd.func77, Tryd.ntmps77
  go_wp2_with fail
  clear hcv
  go_loopw [9] (fun i wx => ∃ k : Nat, k ≤ wd.length ∧ i = .int .i64 k ∧ Hid (WordSt b s N wd k w wx ∧ GX [b] w1 wx)) (fun i _ => wd.length - (intOf i).toNat)
  case atStart => exact ⟨0, Nat.zero_le _, rfl, Lib.hid ⟨HS.out, HG.out⟩⟩
  case round =>
    obtain ⟨k, hk, rfl, HI⟩ := hrel
    rename World => wa
    by_cases hlt : k < wd.length
    · have hd : decide (k < wd.length) = true := by simpa using hlt
      obtain ⟨g, cc, hv, _, _, _, hcell⟩ := HOW.out.pos (by omega)
      cases hv
      have cx := HI.out.2.cellJ (by simp; have := HB.out; omega) (hcell k hlt).1
      obtain ⟨q, hq, hR, hG, hN⟩ := HI.out.1
      rw [gB_drop wd k hlt] at hN
      have HN : Hid (N = (takeR (gB wd k) (s.drop q)).bind fun _ t => wordR (wd.drop (k + 1)) t) := Lib.hid hN
      have HT := Lib.hid (fun W (h : RdB W b s q) => take_any b s q (gB wd k) W h hq (by omega))
      have HR := Lib.hid hR
      have HG1 := Lib.hid hG
      obtain ⟨T, hT⟩ : ∃ T, takeR (gB wd k) (s.drop q) = T := ⟨_, rfl⟩
      rw [hT] at HN HT
      clear hcell hR hG hN hT
      go_wp2_with fail
      refine (HT.out _ HR.out).mono ?_
      intro e w2 hU
      have HU := Lib.hid hU
      clear hU cx
      rcases T with ⟨x, r⟩ | ⟨c, n⟩
      · obtain ⟨rfl, ⟨q2, h1, h2, h3⟩, h4⟩ := HU.out
        have HS2 : Hid (WordSt b s N wd (k + 1) w w2 ∧ GX [b] w1 w2) := Lib.hid ⟨⟨q2, h1, h3, HG1.out.trans h4, by rw [HN.out, h2]; rfl⟩, HI.out.2.trans h4⟩
        clear h2 h3 h4
        go_wp2_with fail
        go_roundw
        case rel => exact ⟨k + 1, by omega, by go_num, HS2⟩
        case measure => simp [intOf]; omega
      · obtain ⟨⟨bf, rfl, hf⟩, hg⟩ := HU.out
        have HX : Hid (UnitP b s N w (.panicked [{ v := .iface 76 (.pointer (some ⟨bf, 0, none⟩)), recovered := false }]) w2) := Lib.hid (by
          rw [HN.out]
          exact ⟨⟨bf, rfl, hf⟩, HG1.out.trans hg⟩)
        clear hf hg
        go_wp2_with fail
        exact ⟨rfl, HX.out⟩
    · have hd : decide (k < wd.length) = false := by simpa using hlt
      obtain rfl : k = wd.length := by omega
      obtain ⟨q, hq, hR, hG, hN⟩ := HI.out.1
      have HX : Hid (UnitP b s N w (.returned (.tuple #[])) wa) := Lib.hid (by
        rw [hN, List.drop_length]; exact ⟨rfl, ⟨q, hq, rfl, hR⟩, hG⟩)
      clear hR hG hN
      go_wp2_with fail
      go_end0
      exact HX.out
end Go.Proofs.YtlhhiiemojhjdaaDoor
set_option linter.unusedVariables false
set_option linter.unusedSimpArgs false
namespace Go.Proofs.YtlhhiiemojhjdaaDoor
open Go Go.RowKit
theorem dec_ascii {b : UInt8} (t : List UInt8) (h : b.toNat < 128) : Lib.decodeL (b :: t) = (b.toNat, 1) := by
  rw [Lib.decodeL_N]
  show Lib.decodeN _ b.toNat _ _ _ = _
  unfold Lib.decodeN
  rw [if_pos h]
theorem dec_high {b : UInt8} (t : List UInt8) (h : ¬ b.toNat < 128) : 128 ≤ (Lib.decodeL (b :: t)).1 := by
  rw [Lib.decodeL_N]
  show 128 ≤ (Lib.decodeN _ b.toNat _ _ _).1
  unfold Lib.decodeN
  rw [if_neg h]
  generalize ((b :: t).getD 1 0).toNat = b1
  generalize ((b :: t).getD 2 0).toNat = b2
  generalize ((b :: t).getD 3 0).toNat = b3
  repeat' split
  all_goals (dsimp only; omega)
theorem dec_top (l : List UInt8) (h : l ≠ []) : (Lib.decodeL l).1 ≤ 1114111 := by
  cases l with
  | nil => exact absurd rfl h
  | cons b t =>
    rw [Lib.decodeL_N]
    show (Lib.decodeN _ b.toNat _ _ _).1 ≤ _
    have := b.toNat_lt
    unfold Lib.decodeN
    generalize ((b :: t).getD 1 0).toNat = b1
    generalize ((b :: t).getD 2 0).toNat = b2
    generalize ((b :: t).getD 3 0).toNat = b3
    repeat' split
    all_goals (dsimp only; omega)
theorem dec_k (l : List UInt8) (h : l ≠ []) : 1 ≤ (Lib.decodeL l).2 ∧ (Lib.decodeL l).2 ≤ 4 ∧ (Lib.decodeL l).2 ≤ l.length := by
  have h1 := Lib.decodeL_width l
  have h2 := Lib.decodeL_le l h
  refine ⟨by omega, ?_, h2⟩
  rw [Lib.decodeL_N]
  unfold Lib.decodeN
  repeat' split
  all_goals simp
theorem dec_go (l : List UInt8) (h : l ≠ []) : Lib.decodeGoB ⟨l.toArray⟩ = Lib.decodeL l := by
  unfold Lib.decodeGoB Lib.decodeL
  rw [if_neg]
  cases l with
  | nil => exact absurd rfl h
  | cons b t => simp [ByteArray.size]
theorem or_hex (n v : Nat) (hn : n < 4096) (hv : v < 16) : bits .or .i64 ((n : Int) * 16) (v : Int) = ((16 * n + v : Nat) : Int) := by
  have h0 : n * 16 ||| v = 16 * n + v := by
    have := Nat.shiftLeft_add_eq_or_of_lt (i := 4) (b := v) (by omega) n
    rw [Nat.shiftLeft_eq, show (2 : Nat) ^ 4 = 16 from rfl] at this
    omega
  have h1 : (BitVec.ofInt 64 ((n : Int) * 16)).toNat = n * 16 := by
    rw [show ((n : Int) * 16) = ((n * 16 : Nat) : Int) by omega, BitVec.ofInt_natCast, BitVec.toNat_ofNat]; exact Nat.mod_eq_of_lt (by omega)
  have h2 : (BitVec.ofInt 64 (v : Int)).toNat = v := by
    rw [BitVec.ofInt_natCast, BitVec.toNat_ofNat]; exact Nat.mod_eq_of_lt (by omega)
  show IntKind.i64.wrap ((BitVec.ofInt 64 ((n : Int) * 16) ||| BitVec.ofInt 64 (v : Int)).toNat : Int) = _
  rw [BitVec.toNat_or, h1, h2, h0, IntKind.wrap_i64]
  omega
def unitAt (f i n : Nat) (l : List UInt8) : PR Nat := match i with
  | 0 => unitR f l
  | 1 => (mustR f 117 l).bind fun _ u => fourR f 4 0 u
  | k + 2 => fourR f (4 - k) n l
theorem unit_nil (f i n : Nat) (h : i < 6) : unitAt f i n [] = .bad 54 0 := by
  match i, h with
  | 0, _ => rfl
  | 1, _ => rfl
  | 2, _ => rfl
  | 3, _ => rfl
  | 4, _ => rfl
  | 5, _ => rfl
def wantB : List UInt8 := [92, 117, 48, 48, 48, 48]
theorem unit_two (f i : Nat) (b : UInt8) (t : List UInt8) (h : i < 2) : unitAt f i 0 (b :: t) = if b = gB wantB i then unitAt f (i + 1) 0 t else .bad 54 f := by
  match i, h with
  | 0, _ =>
    show ((mustR f 92 (b :: t)).bind fun _ t => (mustR f 117 t).bind fun _ u => fourR f 4 0 u) = _
    rw [mustR]
    show _ = if b = 92 then (mustR f 117 t).bind fun _ u => fourR f 4 0 u else _
    by_cases e : b = 92
    · rw [if_pos e, if_pos e]; rfl
    · rw [if_neg e, if_neg e]; rfl
  | 1, _ =>
    show ((mustR f 117 (b :: t)).bind fun _ u => fourR f 4 0 u) = _
    rw [mustR]
    show _ = if b = 117 then fourR f 4 0 t else _
    by_cases e : b = 117
    · rw [if_pos e, if_pos e]; rfl
    · rw [if_neg e, if_neg e]; rfl
theorem unit_hex (f i n : Nat) (b : UInt8) (t : List UInt8) (h : 2 ≤ i) (h6 : i < 6) : unitAt f i n (b :: t) = match hexJ b with
    | none => .bad 54 f
    | some v => unitAt f (i + 1) (16 * n + v) t := by
  obtain ⟨k, rfl⟩ : ∃ k, i = k + 2 := ⟨i - 2, by omega⟩
  show fourR f (4 - k) n (b :: t) = _
  obtain ⟨m, hm⟩ : ∃ m, 4 - k = m + 1 := ⟨3 - k, by omega⟩
  rw [hm, fourR]
  cases hexJ b with
  | none => rfl
  | some v =>
    show fourR f m _ t = fourR f (4 - (k + 1)) _ t
    rw [show 4 - (k + 1) = m by omega]
theorem unit_end (f n : Nat) (l : List UInt8) : unitAt f 6 n l = .ok n l := rfl
def hexA : List UInt8 := [48, 49, 50, 51, 52, 53, 54, 55, 56, 57, 97, 98, 99, 100, 101, 102, 65, 66, 67, 68, 69, 70]
theorem hex_ix (b : UInt8) : hexJ b = if 16 ≤ Lib.indexByte hexA b then some (Lib.indexByte hexA b - 6).toNat else if 0 ≤ Lib.indexByte hexA b then some (Lib.indexByte hexA b).toNat else none := by
  have h : ∀ n : Fin 256, hexJ n.val.toUInt8 = if 16 ≤ Lib.indexByte hexA n.val.toUInt8 then some (Lib.indexByte hexA n.val.toUInt8 - 6).toNat else if 0 ≤ Lib.indexByte hexA n.val.toUInt8 then some (Lib.indexByte hexA n.val.toUInt8).toNat else none := by decide +kernel
  simpa using h ⟨b.toNat, b.toNat_lt⟩
theorem hex_le (b : UInt8) : Lib.indexByte hexA b ≤ 21 ∧ -1 ≤ Lib.indexByte hexA b := by
  have h : ∀ n : Fin 256, Lib.indexByte hexA n.val.toUInt8 ≤ 21 ∧ -1 ≤ Lib.indexByte hexA n.val.toUInt8 := by decide +kernel
  simpa using h ⟨b.toNat, b.toNat_lt⟩
theorem hexJ_lt {b : UInt8} {v : Nat} (h : hexJ b = some v) : v < 16 := by
  have h1 := hex_le b
  rw [hex_ix] at h
  split at h
  · injection h with h; omega
  · split at h
    · injection h with h; omega
    · cases h
def escF : List UInt8 := [34, 92, 47, 98, 102, 110, 114, 116]
def escT : List UInt8 := [34, 92, 47, 8, 12, 10, 13, 9]
theorem esc_ix (b : UInt8) : simpleE b = if Lib.indexByte escF b < 0 then none else some (gB escT (Lib.indexByte escF b).toNat) := by
  have h : ∀ n : Fin 256, simpleE n.val.toUInt8 = if Lib.indexByte escF n.val.toUInt8 < 0 then none else some (gB escT (Lib.indexByte escF n.val.toUInt8).toNat) := by decide +kernel
  simpa using h ⟨b.toNat, b.toNat_lt⟩
theorem esc_le (b : UInt8) : Lib.indexByte escF b ≤ 7 ∧ -1 ≤ Lib.indexByte escF b := by
  have h : ∀ n : Fin 256, Lib.indexByte escF n.val.toUInt8 ≤ 7 ∧ -1 ≤ Lib.indexByte escF n.val.toUInt8 := by decide +kernel
  simpa using h ⟨b.toNat, b.toNat_lt⟩
theorem four_lt (f : Nat) : ∀ (k n : Nat) (l : List UInt8) (v : Nat) (r : List UInt8), fourR f k n l = .ok v r → v < (n + 1) * 16 ^ k
  | 0, n, l, v, r, h => by
    rw [fourR] at h
    injection h with h1 h2
    omega
  | k + 1, n, [], v, r, h => by rw [fourR] at h; cases h
  | k + 1, n, b :: t, v, r, h => by
    rw [fourR] at h
    cases hx : hexJ b with
    | none => rw [hx] at h; cases h
    | some d =>
      rw [hx] at h
      have h1 := four_lt f k (16 * n + d) t v r h
      have h2 := hexJ_lt hx
      have h3 : (16 * n + d + 1) * 16 ^ k ≤ (16 * (n + 1)) * 16 ^ k := Nat.mul_le_mul_right _ (by omega)
      have h4 : (n + 1) * 16 ^ (k + 1) = (16 * (n + 1)) * 16 ^ k := by rw [Nat.pow_succ, Nat.mul_comm (16 ^ k) 16, ← Nat.mul_assoc, Nat.mul_comm (n + 1) 16]
      omega
theorem enc_len (r : Int) : 1 ≤ (Lib.encodeRune r).length ∧ (Lib.encodeRune r).length ≤ 4 := by
  have := Lib.encodeRuneZ_length r
  unfold Lib.encodeRune
  rw [List.length_map]; exact this
end Go.Proofs.YtlhhiiemojhjdaaDoor
