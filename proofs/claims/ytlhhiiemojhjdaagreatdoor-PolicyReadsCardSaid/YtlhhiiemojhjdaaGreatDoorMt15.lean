/- Texts of this proof, laid into one: LaN, LaO, LaP. -/
import Derived.Test.YtlhhiiemojhjdaaGreatDoorMt14
set_option linter.unusedVariables false
set_option linter.unusedSimpArgs false
namespace Go.Proofs.YtlhhiiemojhjdaaGreatDoor
open Go Go.RowKit
theorem vl_ret {d b : Nat} {s : Txt} {a : Int} {r : PR JsonD} {W Wx w' : World} {rv : Nat} {k : Int} {t : Txt} {un uk : Value} (hq : Q W Wx) (hrv : rv = W.heap.size) (hbl : b < W.heap.size) (hz : Wx.heap[rv]? = some (.cells zeroC.toArray 46 (0, 0))) (h : VlP d b s a r Wx (.returned (.agg (jsonC k t un uk).toArray)) w') :
    w'.heap[rv]? = some (.cells zeroC.toArray 46 (0, 0)) ∧ (w'.setRow rv (jsonC k t un uk).toArray).heap[rv]? = some (.cells (jsonC k t un uk).toArray 46 (0, 0)) ∧ (jsonC k t un uk).toArray.all (·.oneCell') = true ∧
    VlP d b s a r W (.returned (.agg (jsonC k t un uk).toArray)) (w'.setRow rv (jsonC k t un uk).toArray) := by
  have hg := h.1
  have hz' : w'.heap[rv]? = some (.cells zeroC.toArray 46 (0, 0)) := hg.heap (by simp; omega) hz
  have hrx := lt_of_heap hz
  have hgW : GX [b] W (w'.setRow rv (jsonC k t un uk).toArray) := ((GX.q hq).trans hg).sub ((GX.refl [rv] w').setRow (by simp) _) (fun i hi => by simp at hi; right; omega)
  have hsc : ∀ q c a', ScB w' b s q c a' → ScB (w'.setRow rv (jsonC k t un uk).toArray) b s q c a' := fun q c a' hs => by
    unfold ScB
    rw [setRow_other _ _ _ _ (by omega)]; exact hs
  have hone : (jsonC k t un uk).toArray.all (·.oneCell') = true := by
    obtain ⟨kk, kt, un', uk', e, h1, h2, _⟩ := h.any
    injection e with e
    injection e with e
    rw [e]; exact rowJ_one h1 h2
  refine ⟨hz', setRow_at hz' _, hone, hgW, ?_⟩
  have h2 := h.2
  cases r with
  | ok v u =>
    obtain ⟨⟨un', uk', e, hj⟩, q, h3, h4, h5⟩ := h2
    refine ⟨⟨un', uk', e, ?_⟩, q, h3, h4, hsc _ _ _ h5⟩
    have hsz : (w'.setRow rv (jsonC k t un uk).toArray).heap.size = w'.heap.size := by simp [World.setRow]
    rw [hsz]
    exact (JO.frame v _ _ un' uk' (fun i e1 e2 e3 => setRow_other _ _ _ _ (by omega)) hj).widen hq.size (Nat.le_refl _)
  | bad c n =>
    obtain ⟨h3, q, h4, h5, h6⟩ := h2
    exact ⟨h3, q, h4, h5, hsc _ _ _ h6⟩
theorem vl_atom {d b : Nat} {s : Txt} {a : Int} {W w' : World} {k : Int} {t : Txt} {u : Txt} {q : Nat} (hg : GX [b] W w') (hq : q ≤ s.length) (hd : s.drop q = u) (hs : ScB w' b s q 0 a) : VlP d b s a (.ok (.mk k t [] []) u) W (.returned (.agg (jsonC k t (.slice none 0 0) (.slice none 0 0)).toArray)) w' :=
  ⟨hg, ⟨_, _, rfl, jo_nil hg.size⟩, q, hq, hd, hs⟩
theorem vl_bad {d b : Nat} {s : Txt} {a : Int} {W w' : World} {k : Int} {t : Txt} {c n q : Nat} {A : Int} (hg : GX [b] W w') (hq : q ≤ s.length) (hc : c ≠ 0) (hA : A = ((s.length - n : Nat) : Int)) (hs : ScB w' b s q (c : Int) A) : VlP d b s a (.bad c n) W (.returned (.agg (jsonC k t (.slice none 0 0) (.slice none 0 0)).toArray)) w' :=
  ⟨hg, ⟨_, _, _, _, rfl, ⟨_, _, _, rfl⟩, _, _, _, rfl⟩, q, by omega, hc, hA ▸ hs⟩
theorem num_out {d b : Nat} {s : Txt} {a : Int} {R : PR JsonD} {Wx w1 : World} {q : Nat} (hq : q ≤ s.length) (hP : UnR b s a (numR (s.drop q)) Wx w1) (hR : (numR (s.drop q)).bind (fun _ t => .ok (.mk 4 ((s.drop q).take ((s.drop q).length - t.length)) [] []) t) = R) :
    ∃ (q' : Nat) (c a' : Int), q ≤ q' ∧ q' ≤ s.length ∧ ScB w1 b s q' c a' ∧ ∀ w2, Q w1 w2 → VlP d b s a R Wx (.returned (.agg (jsonC 4 (sub s q q') (.slice none 0 0) (.slice none 0 0)).toArray)) w2 := by
  obtain ⟨hg, hP⟩ := hP
  have hgood := numR_good (s.drop q)
  obtain ⟨T, hT⟩ : ∃ T, numR (s.drop q) = T := ⟨_, rfl⟩
  rw [hT] at hP hR hgood
  cases T with
  | ok x t =>
    obtain ⟨q1, h1, h2, h3⟩ := hP
    have h4 : t.length ≤ (s.drop q).length := List.IsSuffix.length_le hgood
    have h5 : t.length = s.length - q1 := by rw [← h2, List.length_drop]
    rw [List.length_drop] at h4
    refine ⟨q1, 0, a, by omega, h1, h3, fun w2 hq2 => ?_⟩
    have e : (s.drop q).take ((s.drop q).length - t.length) = sub s q q1 := by
      unfold sub
      rw [List.drop_take, List.length_drop, h5]
      congr 1; omega
    rw [← hR]
    show VlP d b s a (.ok (.mk 4 ((s.drop q).take ((s.drop q).length - t.length)) [] []) t) Wx _ w2
    rw [e]
    exact vl_atom (hg.trans (GX.q hq2)) h1 h2 (h3.q hq2)
  | bad m k =>
    obtain ⟨q1, h1, h2, h3⟩ := hP
    have h4 : k ≤ (s.drop q).length := hgood
    rw [List.length_drop] at h4
    refine ⟨q1, _, _, by omega, h1, h3, fun w2 hq2 => ?_⟩
    rw [← hR]
    exact vl_bad (hg.trans (GX.q hq2)) h1 h2.1 rfl (h3.q hq2)
theorem vl_atomR (d : Nat) {l : Txt} (h1 : hdB l ≠ 91) (h2 : hdB l ≠ 123) : valR d l = atomR l := by
  cases d with
  | zero => rw [valR, if_neg (by intro h; rcases h with h | h; exact h1 h; exact h2 h)]
  | succ d => rw [valR, if_neg h1, if_neg h2]
theorem u8_ne {v : UInt8} {x : UInt8} (h : ¬ v = x) : ((v.toNat : Int) == (x.toNat : Int)) = false := by rw [u8_eq]; simpa using h
set_option maxRecDepth 100000 in
set_option maxHeartbeats 8000000 in
theorem rvalue_step (d b : Nat) (s : Txt) (a : Int) (hl : s.length ≤ 100000) (hd : d ≤ 20) (IH : ∀ d', d = d' + 1 → VlAll d' b s a) : VlAll d b s a := by
  intro q W h hq
  have HBL : Hid (b < W.heap.size) := Lib.hid (lt_of_heap h)
  have H := Lib.hid h
  have HIH := Lib.hid IH
  obtain ⟨R, hR⟩ : ∃ R, valR d (s.drop q) = R := ⟨_, rfl⟩
  rw [hR]
  have HR := Lib.hid hR
  obtain ⟨D, hD⟩ : ∃ D : Int, 20 - (d : Int) = D := ⟨_, rfl⟩
  rw [hD]
  have HD := Lib.hid hD
  have hD2 : (0 : Int) ≤ D := by omega
  have hD3 : D ≤ 20 := by omega
  clear h hR hD IH
  go_enter Tryz.func26, Tryz.ntmps26
  go_upto_region 1 with (fail)
  obtain ⟨W0, hW0⟩ : ∃ W0, W.alloc (.cells #[.int .i64 0, .string ⟨#[]⟩, .slice none 0 0, .slice none 0 0] 46) = W0 := ⟨_, rfl⟩
  have hz0 : W0.heap[W.heap.size]? = some (.cells zeroC.toArray 46 (0, 0)) := by rw [← hW0]; exact heap_alloc_new W _
  have hq0 : Q W W0 := by rw [← hW0]; exact (Q.refl W).alloc _
  obtain ⟨rv, hrv⟩ : ∃ rv, W.heap.size = rv := ⟨_, rfl⟩
  rw [hrv] at hz0
  rw [hW0, hrv]
  have HZ0 := Lib.hid hz0
  have HQ0 := Lib.hid hq0
  have HRV : Hid (rv = W.heap.size) := Lib.hid hrv.symm
  have HS0 := Lib.hid (H.out.q hq0)
  have k0 : ∀ mm : QW W0, mm.val.cell? ⟨b, 0, none⟩ = some (.string ⟨s.toArray⟩) := fun mm => mm.cell HS0.out.c.1
  have k1 : ∀ mm : QW W0, mm.val.cell? ⟨b, 1, none⟩ = some (.int .i64 (q : Int)) := fun mm => mm.cell HS0.out.c.2.1
  clear hW0 hz0 hq0 hrv H
  by_cases hend : s.length ≤ q
  · have hd1 : decide (s.length ≤ q) = true := by simpa using hend
    have HRe : Hid (R = .bad 54 0) := Lib.hid (by rw [← HR.out, List.drop_of_length_le hend, vl_atomR d (by decide) (by decide)]; rfl)
    clear HR hend
    refine wp_region_q (by kernel_rfl) (by kernel_rfl) ?_
    (repeat (go_big_quiet_step (fail)))
    refine wpQuiet_nil ?_
    rintro Wx ⟨mb, hmb⟩
    have HQx : Hid (Q W Wx) := Lib.hid (HQ0.out.trans (by rw [hmb]; exact mb.le))
    have HSx := Lib.hid (HS0.out.q (show Q W0 Wx by rw [hmb]; exact mb.le))
    have HZx : Hid (Wx.heap[rv]? = some (.cells zeroC.toArray 46 (0, 0))) := Lib.hid ((show Q W0 Wx by rw [hmb]; exact mb.le).block HZ0.out)
    have x0 := HSx.out.c.1
    have HN := Lib.hid (no_any b s q 0 a 54 s.length Wx HSx.out)
    clear mb hmb k0 k1 HZ0 HQ0 HS0
    go_wp2_with fail
    refine HN.out.mono ?_
    rintro e w1 ⟨rfl, hs1, hg1⟩
    have HV : Hid (VlP d b s a R Wx (.returned (.agg (jsonC 0 [] (.slice none 0 0) (.slice none 0 0)).toArray)) w1) := Lib.hid (by rw [HRe.out]; exact vl_bad hg1 hq (by decide) (by simp) (show ScB w1 b s q ((54 : Nat) : Int) (s.length : Int) by simpa [keepE] using hs1))
    clear hs1 hg1 HN
    obtain ⟨z1, z2, z3, z4⟩ := vl_ret HQx.out HRV.out HBL.out HZx.out HV.out
    have Z1 := Lib.hid z1
    have Z2 := Lib.hid z2
    have Z3 := Lib.hid z3
    have Z4 := Lib.hid z4
    have HSz := Lib.hid (rowJ_sz 0 [] (.slice none 0 0) (.slice none 0 0))
    clear z1 z2 z3 z4 HV
    go_wp2_with (refine wpList_store_row rfl 46 (.tmp 4) (.tmp 25) rfl rv (jsonC 0 [] (.slice none 0 0) (.slice none 0 0)).toArray rfl rfl 46 _ Z1.out HSz.out rfl Z3.out ?_)
    refine bodyPost_ret (results_cell_row rfl _ _ rv 46 _ (0, 0) _ (by rfl) Z2.out Tryz.underlying46 rfl HSz.out) rfl ?_
    exact Z4.out
  · have hd1 : decide (s.length ≤ q) = false := by simpa using hend
    have hd2 : decide (q < s.length) = true := by simp; omega
    obtain ⟨v, hv⟩ : ∃ v, gB s q = v := ⟨_, rfl⟩
    have hh : hdB (s.drop q) = v := by rw [hd_drop (by omega), hv]
    have HH := Lib.hid hh
    clear hh
    refine wp_region_q (by kernel_rfl) (by kernel_rfl) ?_
    (repeat (go_big_quiet_step (fail)))
    refine wpQuiet_nil ?_
    rintro Wy ⟨mb, hmb⟩
    have HQy : Hid (Q W Wy) := Lib.hid (HQ0.out.trans (by rw [hmb]; exact mb.le))
    have HSy := Lib.hid (HS0.out.q (show Q W0 Wy by rw [hmb]; exact mb.le))
    have HZy : Hid (Wy.heap[rv]? = some (.cells zeroC.toArray 46 (0, 0))) := Lib.hid ((show Q W0 Wy by rw [hmb]; exact mb.le).block HZ0.out)
    have k0 : ∀ mm : QW Wy, mm.val.cell? ⟨b, 0, none⟩ = some (.string ⟨s.toArray⟩) := fun mm => mm.cell HSy.out.c.1
    have k1 : ∀ mm : QW Wy, mm.val.cell? ⟨b, 1, none⟩ = some (.int .i64 (q : Int)) := fun mm => mm.cell HSy.out.c.2.1
    clear mb hmb HZ0 HQ0 HS0
    go_upto_region 4 with (fail)
    refine wp_region_q (by kernel_rfl) (by kernel_rfl) ?_
    (repeat (go_big_quiet_step (fail)))
    refine wpQuiet_nil ?_
    rintro Wx ⟨mb, hmb⟩
    have HQx : Hid (Q W Wx) := Lib.hid (HQy.out.trans (by rw [hmb]; exact mb.le))
    have HSx := Lib.hid (HSy.out.q (show Q Wy Wx by rw [hmb]; exact mb.le))
    have HZx : Hid (Wx.heap[rv]? = some (.cells zeroC.toArray 46 (0, 0))) := Lib.hid ((show Q Wy Wx by rw [hmb]; exact mb.le).block HZy.out)
    obtain ⟨x0, x1, x2, -⟩ := HSx.out.c
    clear mb hmb k0 k1 HZy HQy HSy hd1 hd2
    have hql : q < s.length := by rcases Nat.lt_or_ge q s.length with h | h; exact h; exact absurd h hend
    by_cases c91 : v = 91
    · subst c91
      cases d with
      | zero =>
        have HRe : Hid (R = .bad 57 (s.length - q)) := Lib.hid (by rw [← HR.out, valR, if_pos (by rw [HH.out]; decide), List.length_drop])
        have gD : decide ((20 : Int) ≤ D) = true := by have := HD.out; simp; omega
        have HN := Lib.hid (no_any b s q 0 a 57 q Wx HSx.out)
        clear HR
        go_wp2_with fail
        refine HN.out.mono ?_
        rintro e w1 ⟨rfl, hs1, hg1⟩
        have HV : Hid (VlP 0 b s a R Wx (.returned (.agg (jsonC 0 [] (.slice none 0 0) (.slice none 0 0)).toArray)) w1) := Lib.hid (by rw [HRe.out]; exact vl_bad hg1 hq (by decide) (by omega) (show ScB w1 b s q ((57 : Nat) : Int) (q : Int) by simpa [keepE] using hs1))
        clear hs1 hg1 HN
        obtain ⟨z1, z2, z3, z4⟩ := vl_ret HQx.out HRV.out HBL.out HZx.out HV.out
        have Z1 := Lib.hid z1
        have Z2 := Lib.hid z2
        have Z3 := Lib.hid z3
        have Z4 := Lib.hid z4
        have HSz := Lib.hid (rowJ_sz 0 [] (.slice none 0 0) (.slice none 0 0))
        clear z1 z2 z3 z4 HV
        go_wp2_with (refine wpList_store_row rfl 46 (.tmp 4) (.tmp 51) rfl rv (jsonC 0 [] (.slice none 0 0) (.slice none 0 0)).toArray rfl rfl 46 _ Z1.out HSz.out rfl Z3.out ?_)
        refine bodyPost_ret (results_cell_row rfl _ _ rv 46 _ (0, 0) _ (by rfl) Z2.out Tryz.underlying46 rfl HSz.out) rfl ?_
        exact Z4.out
      | succ d' =>
        have HRe : Hid (((rowR (valR d') 93 (s.drop (q + 1))).bind fun ks t => .ok (.mk 6 [] [] ks) t) = R) := Lib.hid (by
          rw [← HR.out, valR, if_pos (by rw [HH.out])]
          rw [show (s.drop q).tail = s.drop (q + 1) by simp])
        have gD : decide ((20 : Int) ≤ D) = false := by have := HD.out; simp; omega
        have HC := rlist_any d' b s a q Wx (HIH.out d' rfl) (by omega) HSx.out (by omega) hl
        rw [HD.out, HRe.out] at HC
        have HC := Lib.hid HC
        clear HR
        go_wp2_with fail
        refine HC.out.mono ?_
        intro e w1 hV
        obtain ⟨kk, kt, un, uk, rfl, -⟩ := hV.any
        have HV := Lib.hid hV
        clear hV HC
        obtain ⟨z1, z2, z3, z4⟩ := vl_ret HQx.out HRV.out HBL.out HZx.out HV.out
        have Z1 := Lib.hid z1
        have Z2 := Lib.hid z2
        have Z3 := Lib.hid z3
        have Z4 := Lib.hid z4
        have HSz := Lib.hid (rowJ_sz kk kt un uk)
        clear z1 z2 z3 z4 HV
        go_wp2_with (refine wpList_store_row rfl 46 (.tmp 4) (.tmp 57) rfl rv (jsonC kk kt un uk).toArray rfl rfl 46 _ Z1.out HSz.out rfl Z3.out ?_)
        refine bodyPost_ret (results_cell_row rfl _ _ rv 46 _ (0, 0) _ (by rfl) Z2.out Tryz.underlying46 rfl HSz.out) rfl ?_
        exact Z4.out
    have n91 := u8_ne c91
    rw [show (((91 : UInt8).toNat : Nat) : Int) = 91 from rfl] at n91
    by_cases c123 : v = 123
    · subst c123
      cases d with
      | zero =>
        have HRe : Hid (R = .bad 57 (s.length - q)) := Lib.hid (by rw [← HR.out, valR, if_pos (by rw [HH.out]; decide), List.length_drop])
        have gD : decide ((20 : Int) ≤ D) = true := by have := HD.out; simp; omega
        have HN := Lib.hid (no_any b s q 0 a 57 q Wx HSx.out)
        clear HR
        go_wp2_with fail
        refine HN.out.mono ?_
        rintro e w1 ⟨rfl, hs1, hg1⟩
        have HV : Hid (VlP 0 b s a R Wx (.returned (.agg (jsonC 0 [] (.slice none 0 0) (.slice none 0 0)).toArray)) w1) := Lib.hid (by rw [HRe.out]; exact vl_bad hg1 hq (by decide) (by omega) (show ScB w1 b s q ((57 : Nat) : Int) (q : Int) by simpa [keepE] using hs1))
        clear hs1 hg1 HN
        obtain ⟨z1, z2, z3, z4⟩ := vl_ret HQx.out HRV.out HBL.out HZx.out HV.out
        have Z1 := Lib.hid z1
        have Z2 := Lib.hid z2
        have Z3 := Lib.hid z3
        have Z4 := Lib.hid z4
        have HSz := Lib.hid (rowJ_sz 0 [] (.slice none 0 0) (.slice none 0 0))
        clear z1 z2 z3 z4 HV
        go_wp2_with (refine wpList_store_row rfl 46 (.tmp 4) (.tmp 51) rfl rv (jsonC 0 [] (.slice none 0 0) (.slice none 0 0)).toArray rfl rfl 46 _ Z1.out HSz.out rfl Z3.out ?_)
        refine bodyPost_ret (results_cell_row rfl _ _ rv 46 _ (0, 0) _ (by rfl) Z2.out Tryz.underlying46 rfl HSz.out) rfl ?_
        exact Z4.out
      | succ d' =>
        have HRe : Hid (((rowR (pairR (valR d')) 125 (s.drop (q + 1))).bind fun ks t => .ok (.mk 7 [] (ks.map (·.1)) (ks.map (·.2))) t) = R) := Lib.hid (by
          rw [← HR.out, valR, if_neg (by rw [HH.out]; decide), if_pos (by rw [HH.out])]
          rw [show (s.drop q).tail = s.drop (q + 1) by simp])
        have gD : decide ((20 : Int) ≤ D) = false := by have := HD.out; simp; omega
        have HC := robject_any d' b s a q Wx (HIH.out d' rfl) (by omega) HSx.out (by omega) hl
        rw [HD.out, HRe.out] at HC
        have HC := Lib.hid HC
        clear HR
        go_wp2_with fail
        refine HC.out.mono ?_
        intro e w1 hV
        obtain ⟨kk, kt, un, uk, rfl, -⟩ := hV.any
        have HV := Lib.hid hV
        clear hV HC
        obtain ⟨z1, z2, z3, z4⟩ := vl_ret HQx.out HRV.out HBL.out HZx.out HV.out
        have Z1 := Lib.hid z1
        have Z2 := Lib.hid z2
        have Z3 := Lib.hid z3
        have Z4 := Lib.hid z4
        have HSz := Lib.hid (rowJ_sz kk kt un uk)
        clear z1 z2 z3 z4 HV
        go_wp2_with (refine wpList_store_row rfl 46 (.tmp 4) (.tmp 63) rfl rv (jsonC kk kt un uk).toArray rfl rfl 46 _ Z1.out HSz.out rfl Z3.out ?_)
        refine bodyPost_ret (results_cell_row rfl _ _ rv 46 _ (0, 0) _ (by rfl) Z2.out Tryz.underlying46 rfl HSz.out) rfl ?_
        exact Z4.out
    have n123 := u8_ne c123
    rw [show (((123 : UInt8).toNat : Nat) : Int) = 123 from rfl] at n123
    have HRa : Hid (atomR (s.drop q) = R) := Lib.hid (by rw [← HR.out, vl_atomR d (by rw [HH.out]; exact c91) (by rw [HH.out]; exact c123)])
    clear HR
    by_cases c34 : v = 34
    · subst c34
      have HRe : Hid ((textR (s.drop q)).bind (fun x t => .ok (.mk 5 x [] []) t) = R) := Lib.hid (by rw [← HRa.out, atomR, if_pos HH.out])
      have HC := Lib.hid (rtext_any b s q a Wx HSx.out hq (by omega))
      clear HRa
      go_wp2_with fail
      refine HC.out.mono ?_
      intro e w1 hP
      have hV : ∃ x : Txt, e = .returned (.string ⟨x.toArray⟩) ∧ VlP d b s a R Wx (.returned (.agg (jsonC 5 x (.slice none 0 0) (.slice none 0 0)).toArray)) w1 := by
        have hRe := HRe.out
        obtain ⟨T, hT⟩ : ∃ T, textR (s.drop q) = T := ⟨_, rfl⟩
        rw [hT] at hP hRe
        cases T with
        | ok x t =>
          obtain ⟨hg, rfl, q1, h1, h2, h3⟩ := hP
          exact ⟨x, rfl, by rw [← hRe]; exact vl_atom hg h1 h2 h3⟩
        | bad m k =>
          obtain ⟨hg, ⟨x, rfl⟩, q1, h1, h2, h3⟩ := hP
          exact ⟨x, rfl, by rw [← hRe]; exact vl_bad hg h1 h2 rfl h3⟩
      obtain ⟨x, rfl, hV⟩ := hV
      have HV := Lib.hid hV
      clear hV hP HC
      obtain ⟨z1, z2, z3, z4⟩ := vl_ret HQx.out HRV.out HBL.out HZx.out HV.out
      have Z1 := Lib.hid z1
      have Z2 := Lib.hid z2
      have Z3 := Lib.hid z3
      have Z4 := Lib.hid z4
      have HSz := Lib.hid (rowJ_sz 5 x (.slice none 0 0) (.slice none 0 0))
      clear z1 z2 z3 z4 HV
      go_wp2_with (refine wpList_store_row rfl 46 (.tmp 4) (.tmp 70) rfl rv (jsonC 5 x (.slice none 0 0) (.slice none 0 0)).toArray rfl rfl 46 _ Z1.out HSz.out rfl Z3.out ?_)
      refine bodyPost_ret (results_cell_row rfl _ _ rv 46 _ (0, 0) _ (by rfl) Z2.out Tryz.underlying46 rfl HSz.out) rfl ?_
      exact Z4.out
    have n34 := u8_ne c34
    rw [show (((34 : UInt8).toNat : Nat) : Int) = 34 from rfl] at n34
    by_cases c110 : v = 110
    · subst c110
      have HRe : Hid ((wordR [110, 117, 108, 108] (s.drop q)).bind (fun _ t => .ok (.mk 1 [] [] []) t) = R) := Lib.hid (by rw [← HRa.out, atomR, if_neg (by rw [HH.out]; decide), if_pos HH.out]; rfl)
      have HC := Lib.hid (rword_any b s [110, 117, 108, 108] q a Wx HSx.out hq (by omega) (by decide))
      clear HRa
      go_wp2_with fail
      refine HC.out.mono ?_
      rintro e w1 ⟨rfl, hP⟩
      have HV : Hid (VlP d b s a R Wx (.returned (.agg (jsonC 1 [] (.slice none 0 0) (.slice none 0 0)).toArray)) w1) := Lib.hid (by
        have hRe := HRe.out
        obtain ⟨T, hT⟩ : ∃ T, wordR [110, 117, 108, 108] (s.drop q) = T := ⟨_, rfl⟩
        rw [hT] at hP hRe
        obtain ⟨hg, hP⟩ := hP
        cases T with
        | ok x t =>
          obtain ⟨q1, h1, h2, h3⟩ := hP
          rw [← hRe]; exact vl_atom hg h1 h2 h3
        | bad m k =>
          obtain ⟨q1, h1, h2, h3⟩ := hP
          rw [← hRe]; exact vl_bad hg h1 h2.1 rfl h3)
      clear hP HC
      obtain ⟨z1, z2, z3, z4⟩ := vl_ret HQx.out HRV.out HBL.out HZx.out HV.out
      have Z1 := Lib.hid z1
      have Z2 := Lib.hid z2
      have Z3 := Lib.hid z3
      have Z4 := Lib.hid z4
      have HSz := Lib.hid (rowJ_sz 1 [] (.slice none 0 0) (.slice none 0 0))
      clear z1 z2 z3 z4 HV
      go_wp2_with (refine wpList_store_row rfl 46 (.tmp 4) (.tmp 76) rfl rv (jsonC 1 [] (.slice none 0 0) (.slice none 0 0)).toArray rfl rfl 46 _ Z1.out HSz.out rfl Z3.out ?_)
      refine bodyPost_ret (results_cell_row rfl _ _ rv 46 _ (0, 0) _ (by rfl) Z2.out Tryz.underlying46 rfl HSz.out) rfl ?_
      exact Z4.out
    have n110 := u8_ne c110
    rw [show (((110 : UInt8).toNat : Nat) : Int) = 110 from rfl] at n110
    by_cases c116 : v = 116
    · subst c116
      have HRe : Hid ((wordR [116, 114, 117, 101] (s.drop q)).bind (fun _ t => .ok (.mk 3 [] [] []) t) = R) := Lib.hid (by rw [← HRa.out, atomR, if_neg (by rw [HH.out]; decide), if_neg (by rw [HH.out]; decide), if_pos HH.out]; rfl)
      have HC := Lib.hid (rword_any b s [116, 114, 117, 101] q a Wx HSx.out hq (by omega) (by decide))
      clear HRa
      go_wp2_with fail
      refine HC.out.mono ?_
      rintro e w1 ⟨rfl, hP⟩
      have HV : Hid (VlP d b s a R Wx (.returned (.agg (jsonC 3 [] (.slice none 0 0) (.slice none 0 0)).toArray)) w1) := Lib.hid (by
        have hRe := HRe.out
        obtain ⟨T, hT⟩ : ∃ T, wordR [116, 114, 117, 101] (s.drop q) = T := ⟨_, rfl⟩
        rw [hT] at hP hRe
        obtain ⟨hg, hP⟩ := hP
        cases T with
        | ok x t =>
          obtain ⟨q1, h1, h2, h3⟩ := hP
          rw [← hRe]; exact vl_atom hg h1 h2 h3
        | bad m k =>
          obtain ⟨q1, h1, h2, h3⟩ := hP
          rw [← hRe]; exact vl_bad hg h1 h2.1 rfl h3)
      clear hP HC
      obtain ⟨z1, z2, z3, z4⟩ := vl_ret HQx.out HRV.out HBL.out HZx.out HV.out
      have Z1 := Lib.hid z1
      have Z2 := Lib.hid z2
      have Z3 := Lib.hid z3
      have Z4 := Lib.hid z4
      have HSz := Lib.hid (rowJ_sz 3 [] (.slice none 0 0) (.slice none 0 0))
      clear z1 z2 z3 z4 HV
      go_wp2_with (refine wpList_store_row rfl 46 (.tmp 4) (.tmp 82) rfl rv (jsonC 3 [] (.slice none 0 0) (.slice none 0 0)).toArray rfl rfl 46 _ Z1.out HSz.out rfl Z3.out ?_)
      refine bodyPost_ret (results_cell_row rfl _ _ rv 46 _ (0, 0) _ (by rfl) Z2.out Tryz.underlying46 rfl HSz.out) rfl ?_
      exact Z4.out
    have n116 := u8_ne c116
    rw [show (((116 : UInt8).toNat : Nat) : Int) = 116 from rfl] at n116
    by_cases c102 : v = 102
    · subst c102
      have HRe : Hid ((wordR [102, 97, 108, 115, 101] (s.drop q)).bind (fun _ t => .ok (.mk 2 [] [] []) t) = R) := Lib.hid (by rw [← HRa.out, atomR, if_neg (by rw [HH.out]; decide), if_neg (by rw [HH.out]; decide), if_neg (by rw [HH.out]; decide), if_pos HH.out]; rfl)
      have HC := Lib.hid (rword_any b s [102, 97, 108, 115, 101] q a Wx HSx.out hq (by omega) (by decide))
      clear HRa
      go_wp2_with fail
      refine HC.out.mono ?_
      rintro e w1 ⟨rfl, hP⟩
      have HV : Hid (VlP d b s a R Wx (.returned (.agg (jsonC 2 [] (.slice none 0 0) (.slice none 0 0)).toArray)) w1) := Lib.hid (by
        have hRe := HRe.out
        obtain ⟨T, hT⟩ : ∃ T, wordR [102, 97, 108, 115, 101] (s.drop q) = T := ⟨_, rfl⟩
        rw [hT] at hP hRe
        obtain ⟨hg, hP⟩ := hP
        cases T with
        | ok x t =>
          obtain ⟨q1, h1, h2, h3⟩ := hP
          rw [← hRe]; exact vl_atom hg h1 h2 h3
        | bad m k =>
          obtain ⟨q1, h1, h2, h3⟩ := hP
          rw [← hRe]; exact vl_bad hg h1 h2.1 rfl h3)
      clear hP HC
      obtain ⟨z1, z2, z3, z4⟩ := vl_ret HQx.out HRV.out HBL.out HZx.out HV.out
      have Z1 := Lib.hid z1
      have Z2 := Lib.hid z2
      have Z3 := Lib.hid z3
      have Z4 := Lib.hid z4
      have HSz := Lib.hid (rowJ_sz 2 [] (.slice none 0 0) (.slice none 0 0))
      clear z1 z2 z3 z4 HV
      go_wp2_with (refine wpList_store_row rfl 46 (.tmp 4) (.tmp 88) rfl rv (jsonC 2 [] (.slice none 0 0) (.slice none 0 0)).toArray rfl rfl 46 _ Z1.out HSz.out rfl Z3.out ?_)
      refine bodyPost_ret (results_cell_row rfl _ _ rv 46 _ (0, 0) _ (by rfl) Z2.out Tryz.underlying46 rfl HSz.out) rfl ?_
      exact Z4.out
    have n102 := u8_ne c102
    rw [show (((102 : UInt8).toNat : Nat) : Int) = 102 from rfl] at n102
    have HRn : Hid ((if hdB (s.drop q) = 45 ∨ tenJ (hdB (s.drop q)) = true then (numR (s.drop q)).bind fun _ t => .ok (.mk 4 ((s.drop q).take ((s.drop q).length - t.length)) [] []) t else .bad 54 (s.drop q).length) = R) := Lib.hid (by have h := HRa.out; rw [atomR, if_neg (by rw [HH.out]; exact c34), if_neg (by rw [HH.out]; exact c110), if_neg (by rw [HH.out]; exact c116), if_neg (by rw [HH.out]; exact c102)] at h; exact h)
    rw [HH.out] at HRn
    clear HRa
    by_cases hn : v = 45 ∨ tenJ v = true
    · have HRe : Hid ((numR (s.drop q)).bind (fun _ t => .ok (.mk 4 ((s.drop q).take ((s.drop q).length - t.length)) [] []) t) = R) := Lib.hid (by rw [← HRn.out, if_pos hn])
      have HC := Lib.hid (rnumber_any b s q a Wx HSx.out hq (by omega))
      clear HRn
      have hcs : v = 45 ∨ (¬ v = 45 ∧ 48 ≤ v.toNat ∧ v.toNat ≤ 57) := by
        rcases hn with h | h
        · exact .inl h
        · right
          unfold tenJ at h
          simp only [Bool.and_eq_true, decide_eq_true_eq] at h
          exact ⟨fun e => by subst e; exact absurd h.1 (by decide), h.1, h.2⟩
      clear hn
      rcases hcs with rfl | ⟨c45, t1, t2⟩
      case' inr =>
        have n45 := u8_ne c45
        rw [show (((45 : UInt8).toNat : Nat) : Int) = 45 from rfl] at n45
        have g48 : decide ((48 : Int) ≤ (v.toNat : Int)) = true := by simp; omega
        have g57 : decide ((v.toNat : Int) ≤ 57) = true := by simp; omega
      all_goals
        go_wp2_with fail
        refine HC.out.mono ?_
        rintro e w1 ⟨rfl, hP⟩
        obtain ⟨q', c, a', hqq, hql', hs1, hVl⟩ := num_out (d := d) hq hP HRe.out
        have HS1 := Lib.hid (hs1.q (Q.refl w1).drew)
        have HV := Lib.hid (hVl w1.drew (Q.refl w1).drew)
        clear hP hs1 hVl HC
        obtain ⟨z1, z2, z3, z4⟩ := vl_ret HQx.out HRV.out HBL.out HZx.out HV.out
        have Z1 := Lib.hid z1
        have Z2 := Lib.hid z2
        have Z3 := Lib.hid z3
        have Z4 := Lib.hid z4
        have HSz := Lib.hid (rowJ_sz 4 (sub s q q') (.slice none 0 0) (.slice none 0 0))
        have HSr : Hid (ScB (w1.drew.setRow rv (jsonC 4 (sub s q q') (.slice none 0 0) (.slice none 0 0)).toArray) b s q' c a') := Lib.hid (by
          unfold ScB
          rw [setRow_other _ _ _ _ (by have := HRV.out; have := HBL.out; omega)]; exact HS1.out)
        clear z1 z2 z3 z4 HV
        go_upto_region 27 with (fail)
        clear x0 x1 x2
        have k0 : ∀ mm : SWA (fun W => ScB W b s q' c a'), mm.val.cell? ⟨b, 0, none⟩ = some (.string ⟨s.toArray⟩) := fun mm => mm.property.c.1
        have k1 : ∀ mm : SWA (fun W => ScB W b s q' c a'), mm.val.cell? ⟨b, 1, none⟩ = some (.int .i64 (q' : Int)) := fun mm => mm.property.c.2.1
        haveI hne : Nonempty (SWA (fun W => ScB W b s q' c a')) := ⟨⟨w1.drew, HS1.out⟩⟩
        refine wp_plan_A (fun W => ScB W b s q' c a') HS1.out [([0, 1, 2, 3, 4, 5, 6, 7, 8, 9, 10], [11])] (by kernel_rfl) (by kernel_rfl) (fun c a d v w h => by cases d <;> exact h) ?_
        simp only [wpPlan, wpListK, List.map_cons, List.map_nil, Array.getD_eq_getD_getElem?, List.getElem?_toArray, List.getElem?_cons_succ, List.getElem?_cons_zero, Option.getD_some, Act.put, List.setIfInBounds_toArray, List.set_cons_succ, List.set_cons_zero]
        (repeat (go_big_quiet_step (fail)))
        refine wpQuiet_nil ?_
        intro K hK
        clear hne k0 k1
        refine wpList_store_row rfl 46 (.tmp 4) (.tmp 116) rfl rv (jsonC 4 (sub s q q') (.slice none 0 0) (.slice none 0 0)).toArray rfl rfl 46 _ Z1.out HSz.out rfl Z3.out ?_
        show K _ _
        refine hK.out _ _ ⟨⟨_, HSr.out⟩, rfl⟩ ?_
        clear hK K
        go_wp2_with fail
        refine bodyPost_ret (results_cell_row rfl _ _ rv 46 _ (0, 0) _ (by rfl) Z2.out Tryz.underlying46 rfl HSz.out) rfl ?_
        exact Z4.out
    · have HRe : Hid (R = .bad 54 (s.length - q)) := Lib.hid (by rw [← HRn.out, if_neg hn, List.length_drop])
      have c45 : ¬ v = 45 := fun h => hn (.inl h)
      have n45 := u8_ne c45
      rw [show (((45 : UInt8).toNat : Nat) : Int) = 45 from rfl] at n45
      have HN := Lib.hid (no_any b s q 0 a 54 q Wx HSx.out)
      have hcs : ¬ (48 ≤ v.toNat ∧ v.toNat ≤ 57) := fun h => hn (.inr (by unfold tenJ; simp [h.1, h.2]))
      clear HRn hn
      by_cases t1 : 48 ≤ v.toNat
      case' pos =>
        have g48 : decide ((48 : Int) ≤ (v.toNat : Int)) = true := by simp; omega
        have g57 : decide ((v.toNat : Int) ≤ 57) = false := by simp; omega
      case' neg =>
        have g48 : decide ((48 : Int) ≤ (v.toNat : Int)) = false := by simp; omega
      all_goals
        clear hcs t1
        go_wp2_with fail
        refine HN.out.mono ?_
        rintro e w1 ⟨rfl, hs1, hg1⟩
        have HV : Hid (VlP d b s a R Wx (.returned (.agg (jsonC 0 [] (.slice none 0 0) (.slice none 0 0)).toArray)) w1) := Lib.hid (by rw [HRe.out]; exact vl_bad hg1 hq (by decide) (by omega) (show ScB w1 b s q ((54 : Nat) : Int) (q : Int) by simpa [keepE] using hs1))
        clear hs1 hg1 HN
        obtain ⟨z1, z2, z3, z4⟩ := vl_ret HQx.out HRV.out HBL.out HZx.out HV.out
        have Z1 := Lib.hid z1
        have Z2 := Lib.hid z2
        have Z3 := Lib.hid z3
        have Z4 := Lib.hid z4
        have HSz := Lib.hid (rowJ_sz 0 [] (.slice none 0 0) (.slice none 0 0))
        clear z1 z2 z3 z4 HV
        go_wp2_with (refine wpList_store_row rfl 46 (.tmp 4) (.tmp 123) rfl rv (jsonC 0 [] (.slice none 0 0) (.slice none 0 0)).toArray rfl rfl 46 _ Z1.out HSz.out rfl Z3.out ?_)
        refine bodyPost_ret (results_cell_row rfl _ _ rv 46 _ (0, 0) _ (by rfl) Z2.out Tryz.underlying46 rfl HSz.out) rfl ?_
        exact Z4.out
theorem rvalue_all (b : Nat) (s : Txt) (a : Int) (hl : s.length ≤ 100000) : ∀ d, d ≤ 20 → VlAll d b s a
  | 0, h => rvalue_step 0 b s a hl h (fun d' e => by cases e)
  | d + 1, h => rvalue_step (d + 1) b s a hl h (fun d' e => by
    injection e with e
    subst e
    exact rvalue_all b s a hl d (by omega))
end Go.Proofs.YtlhhiiemojhjdaaGreatDoor
set_option linter.unusedVariables false
set_option linter.unusedSimpArgs false
namespace Go.Proofs.YtlhhiiemojhjdaaGreatDoor
open Go Go.RowKit
theorem results_json3 {fn : Func} {p q r : Tmp} (h : fn.results = #[.cell p 46, .tmp q, .tmp r]) {tmps : Array Value} {w : World} {g : Nat} {k : Int} {t : Txt} {vn vk x y : Value} (hp : tmps.getD p undef = .pointer (some ⟨g, 0, none⟩)) (hx : tmps.getD q undef = x) (hy : tmps.getD r undef = y) (hb : w.heap[g]? = some (.cells (jsonC k t vn vk).toArray 46 (0, 0))) :
    (results fn tmps).run Tryz.prog w = .ok (.tuple #[.agg (jsonC k t vn vk).toArray, x, y]) w := by
  have h1 := run_loadVar_row w g 46 46 _ _ _ hb Tryz.underlying46 rfl (rowJ_sz k t vn vk)
  have hp' : tmps[p]?.getD undef = .pointer (some ⟨g, 0, none⟩) := by simpa using hp
  have hx' : tmps[q]?.getD undef = x := by simpa using hx
  have hy' : tmps[r]?.getD undef = y := by simpa using hy
  simp [results, h, hp', hx', hy', asAddr, h1, Result.andThen]
def pJ (s : Txt) : PR JsonD → Except (Nat × Nat) JsonD
  | .bad e n => .error (e, s.length - n)
  | .ok v t => if skipJ t = [] then .ok v else .error (54, s.length - (skipJ t).length)
theorem parse_pJ {s : Txt} (hl : s.length ≤ 8000) : parseJ s = pJ s (valR 20 (skipJ s)) := by
  unfold parseJ
  rw [if_neg (by omega)]
  cases valR 20 (skipJ s) <;> rfl
def RPaP (s : Txt) (w : World) (e : Ending) (w' : World) : Prop := Q w w' ∧ ∃ vn vk, e = .returned (.tuple #[.agg (cellJ (pV s) vn vk).toArray, .int .i64 (toldN s).1, .int .i64 (toldN s).2]) ∧ JO w' (pV s) w.heap.size w'.heap.size vn vk
set_option maxRecDepth 100000 in
set_option maxHeartbeats 4000000 in
theorem rparse_any (s : Txt) (w : World) : Calls Tryz.prog 12 #[.string ⟨s.toArray⟩] w (RPaP s w) := by
  have HSz := Lib.hid (rowJ_sz 0 [] (.slice none 0 0) (.slice none 0 0))
  have HOz : Hid ((jsonC 0 [] (.slice none 0 0) (.slice none 0 0)).toArray.all (·.oneCell') = true) := Lib.hid (rowJ_one ⟨_, _, _, rfl⟩ ⟨_, _, _, rfl⟩)
  by_cases hl : 8000 < s.length
  · have g1 : decide ((8000 : Int) < (s.length : Int)) = true := by simp; omega
    have HP : Hid (parseJ s = .error (56, 0)) := Lib.hid (by unfold parseJ; rw [if_pos hl])
    clear hl
    have HZ := Lib.hid (heap_alloc_new w (.cells (jsonC 0 [] (.slice none 0 0) (.slice none 0 0)).toArray 46))
    have HZ2 := Lib.hid (setRow_at (heap_alloc_new w (.cells (jsonC 0 [] (.slice none 0 0) (.slice none 0 0)).toArray 46)) (jsonC 0 [] (.slice none 0 0) (.slice none 0 0)).toArray)
    go_enter Tryz.func12, Tryz.ntmps12
    go_wp2_with (refine wpList_store_row rfl 46 (.tmp 2) (.tmp 10) rfl w.heap.size (jsonC 0 [] (.slice none 0 0) (.slice none 0 0)).toArray rfl rfl 46 _ HZ.out HSz.out rfl HOz.out ?_)
    refine bodyPost_ret (results_json3 (k := 0) (t := []) rfl (by rfl) (by rfl) (by rfl) HZ2.out) rfl ?_
    have e1 : pV s = zeroJ := by unfold pV; rw [HP.out]
    have e2 : toldN s = (56, 0) := by unfold toldN; rw [HP.out]; rfl
    refine ⟨((Q.refl w).alloc _).setRow (Nat.le_refl _) _, .slice none 0 0, .slice none 0 0, ?_, ?_⟩
    · rw [e1, e2]; rfl
    · rw [e1]; exact jo_nil (by simp)
  · have g1 : decide ((8000 : Int) < (s.length : Int)) = false := by simp; omega
    have hl : s.length ≤ 8000 := by omega
    obtain ⟨V, hV⟩ : ∃ V, valR 20 (skipJ s) = V := ⟨_, rfl⟩
    have HP : Hid (parseJ s = pJ s V) := Lib.hid (by rw [parse_pJ hl, hV])
    have HV := Lib.hid hV
    clear hV
    go_enter Tryz.func12, Tryz.ntmps12
    go_upto_region 4 with (fail)
    obtain ⟨W0, hW0⟩ : ∃ W0, w.alloc (.cells #[.int .i64 0, .string ⟨#[]⟩, .slice none 0 0, .slice none 0 0] 46) = W0 := ⟨_, rfl⟩
    have hz0 : W0.heap[w.heap.size]? = some (.cells zeroC.toArray 46 (0, 0)) := by rw [← hW0]; exact heap_alloc_new w _
    have hq0 : Q w W0 := by rw [← hW0]; exact (Q.refl w).alloc _
    have hs0 : W0.heap.size = w.heap.size + 1 := by rw [← hW0]; simp
    rw [hW0]
    obtain ⟨W1, hW1⟩ : ∃ W1, W0.alloc (.cells #[.string ⟨s.toArray⟩, .int .i64 0, .int .i64 0, .int .i64 0] 63) = W1 := ⟨_, rfl⟩
    have hs1 : ScB W1 W0.heap.size s 0 0 0 := by rw [← hW1]; exact heap_alloc_new W0 _
    have hq1 : Q W0 W1 := by rw [← hW1]; exact (Q.refl W0).alloc _
    rw [hW1]
    obtain ⟨rv, hrv⟩ : ∃ rv, w.heap.size = rv := ⟨_, rfl⟩
    rw [hs0, hrv] at hs1
    rw [hrv] at hz0
    rw [hrv]
    obtain ⟨b, hb⟩ : ∃ b, rv + 1 = b := ⟨_, rfl⟩
    rw [hb] at hs1 ⊢
    have HRV := Lib.hid hrv
    have HB := Lib.hid hb
    have HQ1 := Lib.hid (hq0.trans hq1)
    have HZ1 := Lib.hid (hq1.block hz0)
    have HBL : Hid (b < W1.heap.size) := Lib.hid (lt_of_heap hs1)
    have HBk := Lib.hid (rblanks_any b s 0 0 0 W1 hs1 (by omega) (by omega))
    clear hW0 hW1 hz0 hq0 hs0 hs1 hq1 hrv hb
    go_wp2_with fail
    refine HBk.out.mono ?_
    rintro e W2 ⟨rfl, hg2, q, -, hq, hdr, hs2⟩
    have hdr : s.drop q = skipJ s := by
      have h : s.drop q = skipJ (s.drop 0) := hdr
      rw [List.drop_zero] at h; exact h
    have hql : q ≤ s.length := by omega
    have hVl := rvalue_all b s 0 (by omega) 20 (by omega) q W2 hs2 hql
    rw [hdr, HV.out] at hVl
    have HVl : Hid (Calls Tryz.prog 26 #[.pointer (some ⟨b, 0, none⟩), .int .i64 0] W2 (VlP 20 b s 0 V W2)) := Lib.hid hVl
    have HG2 := Lib.hid hg2
    clear hg2 hdr hs2 HBk hVl hq HV
    go_wp2_with fail
    refine HVl.out.mono ?_
    intro e W3 hV3
    obtain ⟨kk, kt, un, uk, rfl, hun, huk, hg3, q3, c, a', hq3, hs3, hres⟩ := hV3.any
    have HG3 := Lib.hid (HG2.out.trans hg3)
    have HS3 := Lib.hid hs3
    have HRes : Hid ((∃ v t, V = .ok v t ∧ jsonC kk kt un uk = cellJ v un uk ∧ JO W3 v W2.heap.size W3.heap.size un uk ∧ c = 0 ∧ a' = 0 ∧ q3 ≤ s.length ∧ s.drop q3 = t) ∨ ∃ m k : Nat, V = .bad m k ∧ m ≠ 0 ∧ c = (m : Int) ∧ a' = ((s.length - k : Nat) : Int)) := Lib.hid hres
    have HSk := Lib.hid (rowJ_sz kk kt un uk)
    have HOk := Lib.hid (rowJ_one (k := kk) (t := kt) hun huk)
    have HW2 : Hid (W1.heap.size ≤ W2.heap.size ∧ W2.heap.size ≤ W3.heap.size) := Lib.hid ⟨HG2.out.size, hg3.size⟩
    clear hV3 hg3 hs3 hres HVl hun huk
    go_upto_region 6 with (refine wpList_store_row rfl 46 (.tmp 6) (.tmp 17) rfl W3.heap.size (jsonC kk kt un uk).toArray rfl rfl 46 _ (heap_alloc_new W3 _) HSk.out rfl HOk.out ?_)
    obtain ⟨W4, hW4⟩ : ∃ W4, (W3.alloc (.cells #[.int .i64 0, .string ⟨#[]⟩, .slice none 0 0, .slice none 0 0] 46)).setRow W3.heap.size (jsonC kk kt un uk).toArray = W4 := ⟨_, rfl⟩
    have hk4 : W4.heap[W3.heap.size]? = some (.cells (jsonC kk kt un uk).toArray 46 (0, 0)) := by rw [← hW4]; exact setRow_at (heap_alloc_new W3 _) _
    have hq4 : Q W3 W4 := by rw [← hW4]; exact ((Q.refl W3).alloc _).setRow (Nat.le_refl _) _
    rw [hW4]
    obtain ⟨jb, hjb⟩ : ∃ jb, W3.heap.size = jb := ⟨_, rfl⟩
    rw [hjb] at hk4 ⊢
    have HJB := Lib.hid hjb
    have HK4 := Lib.hid hk4
    have HQ4 := Lib.hid hq4
    have HBk := Lib.hid (rblanks_any b s q3 c a' W4 (HS3.out.q hq4) (by omega) (by omega))
    clear hW4 hk4 hq4 hjb
    go_wp2_with fail
    refine HBk.out.mono ?_
    rintro e W5 ⟨rfl, hg5, q5, hq35, hq5, hdr5, hs5⟩
    have HDr : Hid (s.drop q5 = skipJ (s.drop q3)) := Lib.hid hdr5
    have HG5 := Lib.hid ((GX.q (S := [b]) HQ4.out).trans hg5)
    have HS5 := Lib.hid hs5
    have hjl : Hid (b < jb ∧ rv < b) := Lib.hid ⟨by
      have := lt_of_heap HS3.out; rw [HJB.out] at this; exact this, by have := HB.out; omega⟩
    have HK5 : Hid (W5.heap[jb]? = some (.cells (jsonC kk kt un uk).toArray 46 (0, 0))) := Lib.hid (hg5.heap (by have := hjl.out; simp; omega) HK4.out)
    obtain ⟨x0, x1, x2, x3⟩ := hs5.c
    clear hg5 hdr5 hs5 HBk
    rcases HRes.out with ⟨v, t, hv, hkc, hjo, rfl, rfl, hq3l, hdt⟩ | ⟨m, k, hv, hm, hc, haa⟩
    rotate_left
    · have hc0 : (c == 0) = false := by subst hc; simpa using hm
      have hcn : (c != 0) = true := by subst hc; simpa using hm
      have HP2 : Hid (pV s = zeroJ ∧ (toldN s).1 = c ∧ (toldN s).2 = a') := Lib.hid (by
        have h : parseJ s = .error (m, s.length - k) := by rw [HP.out, hv]; rfl
        unfold pV toldN
        rw [h]
        exact ⟨rfl, hc.symm, haa.symm⟩)
      clear HRes hv hm hc haa HDr
      have HSE := HS5
      have HZ6 : Hid (W5.heap[rv]? = some (.cells zeroC.toArray 46 (0, 0))) := Lib.hid ((HG3.out.trans HG5.out).heap (by have := hjl.out; simp; omega) HZ1.out)
      have HQ6 : Hid (Q w W5) := Lib.hid ((HG3.out.trans HG5.out).toQ HQ1.out (by intro i hi; simp at hi; have := HRV.out; have := hjl.out; omega))
      have HS6 : Hid (ScB W5.drew b s q5 c a') := Lib.hid (HSE.out.q (Q.refl W5).drew)
      have HS7 : Hid (ScB (W5.drew.setRow rv (jsonC 0 [] (.slice none 0 0) (.slice none 0 0)).toArray) b s q5 c a') := Lib.hid (by
        unfold ScB
        rw [setRow_other _ _ _ _ (by have := hjl.out; omega)]; exact HS6.out)
      have HZ7 : Hid ((W5.drew.setRow rv (jsonC 0 [] (.slice none 0 0) (.slice none 0 0)).toArray).heap[rv]? = some (.cells (jsonC 0 [] (.slice none 0 0) (.slice none 0 0)).toArray 46 (0, 0))) := Lib.hid (setRow_at HZ6.out _)
      have HX : Hid (RPaP s w (.returned (.tuple #[.agg (jsonC 0 [] (.slice none 0 0) (.slice none 0 0)).toArray, .int .i64 (c), .int .i64 (a')])) (W5.drew.setRow rv (jsonC 0 [] (.slice none 0 0) (.slice none 0 0)).toArray)) := Lib.hid (by
        obtain ⟨p1, p2, p3⟩ := HP2.out
        have hqf : Q w (W5.drew.setRow rv (jsonC 0 [] (.slice none 0 0) (.slice none 0 0)).toArray) := HQ6.out.drew.setRow (by have := HRV.out; omega) _
        exact ⟨hqf, .slice none 0 0, .slice none 0 0, by rw [p1, p2, p3]; rfl, by rw [p1]; exact jo_nil hqf.size⟩)
      go_upto_region 10 with (fail)
      clear x0 x1 x2 x3
      have k2 : ∀ mm : SWA (fun W => ScB W b s q5 c a'), mm.val.cell? ⟨b, 2, none⟩ = some (.int .i64 (c)) := fun mm => mm.property.c.2.2.1
      have k3 : ∀ mm : SWA (fun W => ScB W b s q5 c a'), mm.val.cell? ⟨b, 3, none⟩ = some (.int .i64 (a')) := fun mm => mm.property.c.2.2.2
      haveI hne : Nonempty (SWA (fun W => ScB W b s q5 c a')) := ⟨⟨W5.drew, HS6.out⟩⟩
      refine wp_plan_A (fun W => ScB W b s q5 c a') HS6.out [([0, 1, 2, 3, 4, 5, 6, 7, 8], [9, 10, 11])] (by kernel_rfl) (by kernel_rfl) (fun c a d v w h => by cases d <;> exact h) ?_
      simp only [wpPlan, wpListK, List.map_cons, List.map_nil, Array.getD_eq_getD_getElem?, List.getElem?_toArray, List.getElem?_cons_succ, List.getElem?_cons_zero, Option.getD_some, Act.put, List.setIfInBounds_toArray, List.set_cons_succ, List.set_cons_zero]
      (repeat (go_big_quiet_step (fail)))
      refine wpQuiet_nil ?_
      intro K hK
      clear hne k2 k3
      refine wpList_store_row rfl 46 (.tmp 2) (.tmp 45) rfl rv (jsonC 0 [] (.slice none 0 0) (.slice none 0 0)).toArray rfl rfl 46 _ HZ6.out HSz.out rfl HOz.out ?_
      show K _ _
      refine hK.out _ _ ⟨⟨_, HS7.out⟩, rfl⟩ ?_
      clear hK K
      intro K hK
      go_wp2_with fail
      refine hK.out _ _ ⟨⟨_, HS7.out⟩, rfl⟩ ?_
      clear hK K
      intro K hK
      go_wp2_with fail
      refine hK.out _ _ ⟨⟨_, HS7.out⟩, rfl⟩ ?_
      clear hK K
      go_wp2_with fail
      refine bodyPost_ret (results_json3 (k := 0) (t := []) rfl (by rfl) (by rfl) (by rfl) HZ7.out) rfl ?_
      exact HX.out
    · by_cases hlt : q5 < s.length
      · have hd : decide (q5 < s.length) = true := by simpa using hlt
        have HP2 : Hid (pV s = zeroJ ∧ (toldN s).1 = 54 ∧ (toldN s).2 = (q5 : Int)) := Lib.hid (by
          have h : parseJ s = .error (54, q5) := by
            rw [HP.out, hv, pJ, ← hdt, ← HDr.out, if_neg (by
              intro h
              have h := congrArg List.length h
              simp at h; omega)]
            congr 2; simp; omega
          unfold pV toldN
          rw [h]
          exact ⟨rfl, rfl, rfl⟩)
        have HN := Lib.hid (no_any b s q5 0 0 54 q5 W5 HS5.out)
        clear HRes hv hkc hjo hdt HDr
        go_wp2_with fail
        refine HN.out.mono ?_
        rintro e W6 ⟨rfl, hs6, hg6⟩
        have HSE : Hid (ScB W6 b s q5 54 (q5 : Int)) := Lib.hid (by simpa [keepE] using hs6)
        have HG6 := Lib.hid ((HG3.out.trans HG5.out).trans hg6)
        obtain ⟨x0, x1, x2, x3⟩ := HSE.out.c
        clear hs6 hg6 HN
        have HZ6 : Hid (W6.heap[rv]? = some (.cells zeroC.toArray 46 (0, 0))) := Lib.hid (HG6.out.heap (by have := hjl.out; simp; omega) HZ1.out)
        have HQ6 : Hid (Q w W6) := Lib.hid (HG6.out.toQ HQ1.out (by intro i hi; simp at hi; have := HRV.out; have := hjl.out; omega))
        have HS6 : Hid (ScB W6.drew b s q5 54 (q5 : Int)) := Lib.hid (HSE.out.q (Q.refl W6).drew)
        have HS7 : Hid (ScB (W6.drew.setRow rv (jsonC 0 [] (.slice none 0 0) (.slice none 0 0)).toArray) b s q5 54 (q5 : Int)) := Lib.hid (by
          unfold ScB
          rw [setRow_other _ _ _ _ (by have := hjl.out; omega)]; exact HS6.out)
        have HZ7 : Hid ((W6.drew.setRow rv (jsonC 0 [] (.slice none 0 0) (.slice none 0 0)).toArray).heap[rv]? = some (.cells (jsonC 0 [] (.slice none 0 0) (.slice none 0 0)).toArray 46 (0, 0))) := Lib.hid (setRow_at HZ6.out _)
        have HX : Hid (RPaP s w (.returned (.tuple #[.agg (jsonC 0 [] (.slice none 0 0) (.slice none 0 0)).toArray, .int .i64 (54), .int .i64 ((q5 : Int))])) (W6.drew.setRow rv (jsonC 0 [] (.slice none 0 0) (.slice none 0 0)).toArray)) := Lib.hid (by
          obtain ⟨p1, p2, p3⟩ := HP2.out
          have hqf : Q w (W6.drew.setRow rv (jsonC 0 [] (.slice none 0 0) (.slice none 0 0)).toArray) := HQ6.out.drew.setRow (by have := HRV.out; omega) _
          exact ⟨hqf, .slice none 0 0, .slice none 0 0, by rw [p1, p2, p3]; rfl, by rw [p1]; exact jo_nil hqf.size⟩)
        go_upto_region 10 with (fail)
        clear x0 x1 x2 x3
        have k2 : ∀ mm : SWA (fun W => ScB W b s q5 54 (q5 : Int)), mm.val.cell? ⟨b, 2, none⟩ = some (.int .i64 (54)) := fun mm => mm.property.c.2.2.1
        have k3 : ∀ mm : SWA (fun W => ScB W b s q5 54 (q5 : Int)), mm.val.cell? ⟨b, 3, none⟩ = some (.int .i64 ((q5 : Int))) := fun mm => mm.property.c.2.2.2
        haveI hne : Nonempty (SWA (fun W => ScB W b s q5 54 (q5 : Int))) := ⟨⟨W6.drew, HS6.out⟩⟩
        refine wp_plan_A (fun W => ScB W b s q5 54 (q5 : Int)) HS6.out [([0, 1, 2, 3, 4, 5, 6, 7, 8], [9, 10, 11])] (by kernel_rfl) (by kernel_rfl) (fun c a d v w h => by cases d <;> exact h) ?_
        simp only [wpPlan, wpListK, List.map_cons, List.map_nil, Array.getD_eq_getD_getElem?, List.getElem?_toArray, List.getElem?_cons_succ, List.getElem?_cons_zero, Option.getD_some, Act.put, List.setIfInBounds_toArray, List.set_cons_succ, List.set_cons_zero]
        (repeat (go_big_quiet_step (fail)))
        refine wpQuiet_nil ?_
        intro K hK
        clear hne k2 k3
        refine wpList_store_row rfl 46 (.tmp 2) (.tmp 45) rfl rv (jsonC 0 [] (.slice none 0 0) (.slice none 0 0)).toArray rfl rfl 46 _ HZ6.out HSz.out rfl HOz.out ?_
        show K _ _
        refine hK.out _ _ ⟨⟨_, HS7.out⟩, rfl⟩ ?_
        clear hK K
        intro K hK
        go_wp2_with fail
        refine hK.out _ _ ⟨⟨_, HS7.out⟩, rfl⟩ ?_
        clear hK K
        intro K hK
        go_wp2_with fail
        refine hK.out _ _ ⟨⟨_, HS7.out⟩, rfl⟩ ?_
        clear hK K
        go_wp2_with fail
        refine bodyPost_ret (results_json3 (k := 0) (t := []) rfl (by rfl) (by rfl) (by rfl) HZ7.out) rfl ?_
        exact HX.out
      · have hd : decide (q5 < s.length) = false := by simpa using hlt
        have HP2 : Hid (pV s = v ∧ toldN s = (0, 0)) := Lib.hid (by
          have h : parseJ s = .ok v := by
            rw [HP.out, hv, pJ, ← hdt, ← HDr.out, if_pos (List.drop_of_length_le (by omega))]
          unfold pV toldN
          rw [h]
          exact ⟨rfl, rfl⟩)
        have HZ6 : Hid (W5.heap[rv]? = some (.cells zeroC.toArray 46 (0, 0))) := Lib.hid ((HG3.out.trans HG5.out).heap (by have := hjl.out; simp; omega) HZ1.out)
        have HQ6 : Hid (Q w W5) := Lib.hid ((HG3.out.trans HG5.out).toQ HQ1.out (by intro i hi; simp at hi; have := HRV.out; have := hjl.out; omega))
        have HZ7 : Hid ((W5.setRow rv (jsonC kk kt un uk).toArray).heap[rv]? = some (.cells (jsonC kk kt un uk).toArray 46 (0, 0))) := Lib.hid (setRow_at HZ6.out _)
        have HX : Hid (RPaP s w (.returned (.tuple #[.agg (jsonC kk kt un uk).toArray, .int .i64 0, .int .i64 0])) (W5.setRow rv (jsonC kk kt un uk).toArray)) := Lib.hid (by
          obtain ⟨p1, p2⟩ := HP2.out
          have hqf : Q w (W5.setRow rv (jsonC kk kt un uk).toArray) := HQ6.out.setRow (by have := HRV.out; omega) _
          have hw := HW2.out
          have h1 := HQ1.out.size
          have hz := lt_of_heap HZ1.out
          have hbz := HJB.out
          have hj := hjl.out
          have h5 := HG5.out.size
          refine ⟨hqf, un, uk, by rw [p1, p2, ← hkc], ?_⟩
          rw [p1]
          have hsz : (W5.setRow rv (jsonC kk kt un uk).toArray).heap.size = W5.heap.size := by simp [World.setRow]
          rw [hsz]
          have hb2 : b < W1.heap.size := HBL.out
          exact (JO.frame v _ _ un uk (fun i e1 e2 e3 => by
            rw [setRow_other _ _ _ _ (by omega)]
            exact HG5.out.block i e3 (by simp; omega)) hjo).widen (by omega) h5)
        clear HRes hv hkc hjo hdt HDr HP2
        go_wp2_with (first | refine wpList_load_row rfl 46 (.tmp 6) rfl jb rfl 46 (jsonC kk kt un uk).toArray (0, 0) _ HK5.out Tryz.underlying46 rfl HSk.out ?_ | refine wpList_store_row rfl 46 (.tmp 2) (.tmp 54) rfl rv (jsonC kk kt un uk).toArray rfl rfl 46 _ HZ6.out HSk.out rfl HOk.out ?_)
        refine bodyPost_ret (results_json3 (k := kk) (t := kt) rfl (by rfl) (by rfl) (by rfl) HZ7.out) rfl ?_
        exact HX.out
end Go.Proofs.YtlhhiiemojhjdaaGreatDoor
set_option linter.unusedVariables false
set_option linter.unusedSimpArgs false
namespace Go.Proofs.YtlhhiiemojhjdaaGreatDoor
open Go Go.RowKit
set_option maxRecDepth 100000 in
theorem rvalid_any (s : Txt) (w : World) (hl : s.length ≤ 9223372036854775807) :
    Calls Tryz.prog 56 #[.string ⟨s.toArray⟩] w fun e w' => e = .returned (.bool (Lib.validD s)) ∧ Q w w' := by
  obtain ⟨R, hR⟩ : ∃ R, Lib.validD s = R := ⟨_, rfl⟩
  rw [hR]
  have HR := Lib.hid hR
  clear hR
  go_enter Tryz.func56, Tryz.ntmps56
  go_wp2_with fail
  go_loopg [3] (s.length + 1) (fun gk i wx => ∃ q : Nat, gk = s.length - q + 1 ∧ q ≤ s.length ∧ i = .int .i64 (q : Int) ∧ Hid (Lib.validD (s.drop q) = R ∧ Q w wx))
  case atStart => exact ⟨0, by omega, by omega, rfl, Lib.hid ⟨by rw [List.drop_zero]; exact HR.out, Q.refl w⟩⟩
  case round =>
    obtain ⟨q, rfl, hq, rfl, HI⟩ := hrel
    rename World => wa
    by_cases hlt : q < s.length
    · have hd : decide (q < s.length) = true := by simpa using hlt
      obtain ⟨N, hN⟩ : ∃ N, utfN (s.drop q) = N := ⟨_, rfl⟩
      have hU := rutf_any s q wa hl (by omega)
      rw [hN] at hU
      have HU := Lib.hid hU
      have hne : s.drop q ≠ [] := by intro e; have := congrArg List.length e; simp at this; omega
      have hb : N ≠ 0 → q + N ≤ s.length := fun h => by rw [← hN] at h ⊢; exact utf_bound h
      have HV : Hid ((if N = 0 then false else Lib.validD (s.drop (q + N))) = R) := Lib.hid (by
        rw [← HI.out.1, valid_step hne, hN, List.drop_drop])
      have HQ := Lib.hid HI.out.2
      clear hU hN hne HI
      go_wp2_with fail
      refine HU.out.mono ?_
      rintro e wb ⟨rfl, hq2⟩
      have HQ2 := Lib.hid (HQ.out.trans hq2)
      clear hq2 HU HQ
      by_cases h0 : N = 0
      · have g0 : ((N : Int) == 0) = true := by simp; omega
        have HX : Hid (R = false) := Lib.hid (by rw [← HV.out, if_pos h0])
        clear HV hb h0
        go_wp2_with fail
        go_ret
        exact ⟨by rw [HX.out]; rfl, HQ2.out⟩
      · have g0 : ((N : Int) == 0) = false := by simp; omega
        have hqN := hb h0
        have HN : Hid (Lib.validD (s.drop (q + N)) = R ∧ Q w wb) := Lib.hid ⟨by rw [← HV.out, if_neg h0], HQ2.out⟩
        clear HV hb HQ2
        go_wp2_with fail
        go_roundg (s.length - (q + N) + 1)
        case measure => omega
        case rel => exact ⟨q + N, rfl, hqN, by simp, HN⟩
    · have hd : decide (q < s.length) = false := by simpa using hlt
      have HX : Hid (R = true ∧ Q w wa) := Lib.hid (by
        have h := HI.out
        rw [List.drop_of_length_le (by omega)] at h
        exact ⟨h.1.symm.trans (by rfl), h.2⟩)
      clear HI
      go_wp2_with fail
      go_ret
      exact ⟨by rw [HX.out.1]; rfl, HX.out.2⟩
end Go.Proofs.YtlhhiiemojhjdaaGreatDoor
