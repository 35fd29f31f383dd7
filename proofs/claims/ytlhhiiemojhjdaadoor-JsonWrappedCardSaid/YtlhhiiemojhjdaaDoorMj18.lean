/- Texts of this proof, laid into one: KeG. -/
import Derived.Test.YtlhhiiemojhjdaaDoorMj17
/- JsonWrapped. -/
set_option linter.unusedVariables false
set_option linter.unusedSimpArgs false
namespace Go.Proofs.YtlhhiiemojhjdaaDoor
open Go Go.RowKit
def inList (s : Txt) : Txt := 91 :: (s ++ [44, 48, 93])
def inObj (s : Txt) : Txt := 123 :: 34 :: 110 :: 34 :: 58 :: (s ++ [125])
theorem wrapped_told (s : Txt) (j : JsonD) (hl : s.length ≤ 7000) (h : parseJ s = .ok j) :
    ((toldN (inList s)).1 = 0 ∧ (toldN (inObj s)).1 = 0 ∧ pV (inList s) = .mk 6 [] [] [j, .mk 4 [48] [] []] ∧ pV (inObj s) = .mk 7 [] [[110]] [j] ∧ findJ (.mk 7 [] [[110]] [j]) [110] = (j, true)) ∨ ((toldN (inList s)).1 = 57 ∧ (toldN (inObj s)).1 = 57) := by
  have e0 := parse_small (s := s) (by omega)
  have e1 := parse_small (s := inList s) (by unfold inList; simp; omega)
  have e2 := parse_small (s := inObj s) (by unfold inObj; simp; omega)
  rw [e0] at h
  rcases wrapped_law s j h with ⟨h1, h2⟩ | ⟨⟨p, h1⟩, q, h2⟩
  · left
    have h1' : parseJ (inList s) = _ := e1.trans h1
    have h2' : parseJ (inObj s) = _ := e2.trans h2
    refine ⟨by unfold toldN; rw [h1'], by unfold toldN; rw [h2'], by unfold pV; rw [h1'], by unfold pV; rw [h2'], ?_⟩
    have hr := (rt_parse h2').1
    exact find_kid (i := 0) rfl hr rfl
  · right
    have h1' : parseJ (inList s) = _ := e1.trans h1
    have h2' : parseJ (inObj s) = _ := e2.trans h2
    exact ⟨by unfold toldN; rw [h1']; rfl, by unfold toldN; rw [h2']; rfl⟩
set_option maxRecDepth 100000 in
theorem JsonWrapped_any (s : Txt) (w : World) (hu : UT w) :
    Calls Tryd.prog 9 #[.string ⟨s.toArray⟩] w fun e w' => e = .returned (.bool true) ∧ Q w w' := by
  have HU : Hid (∀ W, Q w W → UT W) := Lib.hid (fun W hq => Utf8Tabs_below hu hq)
  have HEx := Lib.hid (examples14 w hu)
  clear hu
  go_enter Tryd.func9, Tryd.ntmps9
  go_wp2_with fail
  refine HEx.out.mono ?_
  rintro e w1 ⟨rfl, hq1⟩
  have HQ1 := Lib.hid hq1
  clear hq1 HEx
  by_cases hl : 7000 < s.length
  · have g1 : decide ((7000 : Int) < (s.length : Int)) = true := by simp; omega
    go_wp2_with fail
    go_ret
    exact ⟨rfl, HQ1.out⟩
  have g1 : decide ((7000 : Int) < (s.length : Int)) = false := by simp; omega
  have hl7 : s.length ≤ 7000 := by omega
  have HL7 := Lib.hid hl7
  clear hl
  have HP1 := Lib.hid (parse_u s w1 (HU.out _ HQ1.out))
  go_wp2_with fail
  refine HP1.out.mono ?_
  rintro e w2 ⟨hq2, A1, n1, c1, A2, n2, c2, ev1, rfl, hj2, he2⟩
  obtain ⟨v1, hv1⟩ : ∃ v, pV s = v := ⟨_, rfl⟩
  have hbg1 := pV_big s
  rw [hv1] at hj2 hbg1
  rw [hv1]
  have HV1 := Lib.hid hv1
  have HBg1 := Lib.hid (bigJ_mono (M := 9223372036854775807) (by decide) _ hbg1)
  have HQ2 := Lib.hid (HQ1.out.trans hq2)
  have HJ2 := Lib.hid hj2
  have HE2 := Lib.hid he2
  have HIn2 := Lib.hid (info_sz v1 (.slice A1 n1 c1) (.slice A2 n2 c2))
  have HOne2 := Lib.hid (jv_one hj2)
  clear hq2 hj2 he2 hv1 hbg1 HP1 g1
  go_upto_region 5 with (refine wpList_store_row rfl 40 (.tmp 4) (.tmp 26) rfl w2.heap.size (cellJ v1 (.slice A1 n1 c1) (.slice A2 n2 c2)).toArray rfl rfl 40 _ (heap_alloc_new w2 _) HIn2.out rfl HOne2.out ?_)
  obtain ⟨W3, N1, hN1, hW3, hq3, hb3⟩ := box_new HJ2.out
  rw [hN1] at hW3
  simp only [Act.put, hN1, hW3]
  have HB3 := Lib.hid hb3
  have HQ3 := Lib.hid (HQ2.out.trans hq3)
  have HE3 := Lib.hid (HE2.out.q hq3)
  clear hN1 hW3 hq3 hb3
  cases hp : parseJ s with
  | error ca =>
    have he := HE3.out
    unfold ErrV at he
    rw [hp] at he
    obtain ⟨bf, rfl, _⟩ := he
    clear hp
    go_wp2_with fail
    go_ret
    exact ⟨rfl, HQ3.out⟩
  | ok j =>
    have he := HE3.out
    unfold ErrV at he
    rw [hp] at he
    subst he
    have hvj : v1 = j := by rw [← HV1.out]; unfold pV; rw [hp]
    subst hvj
    have HWr := Lib.hid (wrapped_told s v1 hl7 hp)
    have HSr : Hid (sameF v1 v1 = true) := Lib.hid (same_refl (rt_parse hp).1)
    obtain ⟨S1, hS1⟩ : ∃ S, inList s = S := ⟨_, rfl⟩
    obtain ⟨S2, hS2⟩ : ∃ S, inObj s = S := ⟨_, rfl⟩
    rw [hS1, hS2] at HWr
    have HS1 := Lib.hid hS1
    have HS2 := Lib.hid hS2
    have HP2 := Lib.hid (parse_u S1 W3 (HU.out _ HQ3.out))
    clear hp hS1 hS2
    go_wp2_with fail
    refine (parse_as HP2.out (by rw [← HS1.out]; unfold inList; simp)).mono ?_
    rintro e w4 ⟨hq4, A3, n3, c3, A4, n4, c4, ev2, rfl, hj4, he4⟩
    obtain ⟨v2, hv2⟩ : ∃ v, pV S1 = v := ⟨_, rfl⟩
    rw [hv2] at hj4 HWr
    rw [hv2]
    have HQ4 := Lib.hid (HQ3.out.trans hq4)
    have HB4 := Lib.hid (HB3.out.q hq4)
    have HF4 := Lib.hid he4
    have HJ4 := Lib.hid hj4
    have HIn4 := Lib.hid (info_sz v2 (.slice A3 n3 c3) (.slice A4 n4 c4))
    have HOne4 := Lib.hid (jv_one hj4)
    clear hq4 hj4 he4 hv2 HP2
    go_upto_region 8 with (refine wpList_store_row rfl 40 (.tmp 6) (.tmp 36) rfl w4.heap.size (cellJ v2 (.slice A3 n3 c3) (.slice A4 n4 c4)).toArray rfl rfl 40 _ (heap_alloc_new w4 _) HIn4.out rfl HOne4.out ?_)
    obtain ⟨W5, N2, hN2, hW5, hq5, hb5⟩ := box_new HJ4.out
    rw [hN2] at hW5
    simp only [Act.put, hN2, hW5]
    have HQ5 := Lib.hid (HQ4.out.trans hq5)
    have HB5 := Lib.hid (HB4.out.q hq5)
    have HK5 := Lib.hid hb5
    have HF5 := Lib.hid (HF4.out.q hq5)
    have HP3 := Lib.hid (parse_u S2 W5 (HU.out _ HQ5.out))
    clear hN2 hW5 hq5 hb5
    go_wp2_with fail
    refine (parse_as HP3.out (by rw [← HS2.out]; unfold inObj; simp)).mono ?_
    rintro e w6 ⟨hq6, A5, n5, c5, A6, n6, c6, ev3, rfl, hj6, he6⟩
    obtain ⟨v3, hv3⟩ : ∃ v, pV S2 = v := ⟨_, rfl⟩
    have hbg3 := pV_big S2
    rw [hv3] at hj6 HWr hbg3
    rw [hv3]
    have HBg3 := Lib.hid (bigJ_mono (M := 9223372036854775807) (by decide) _ hbg3)
    have HQ6 := Lib.hid (HQ5.out.trans hq6)
    have HB6 := Lib.hid (HB5.out.q hq6)
    have HK6 := Lib.hid (HK5.out.q hq6)
    have HF6 := Lib.hid (HF5.out.q hq6)
    have HG6 := Lib.hid he6
    have HJ6 := Lib.hid hj6
    have HIn6 := Lib.hid (info_sz v3 (.slice A5 n5 c5) (.slice A6 n6 c6))
    have HOne6 := Lib.hid (jv_one hj6)
    clear hq6 hj6 he6 hv3 HP3 hbg3
    go_upto_region 9 with (refine wpList_store_row rfl 40 (.tmp 8) (.tmp 43) rfl w6.heap.size (cellJ v3 (.slice A5 n5 c5) (.slice A6 n6 c6)).toArray rfl rfl 40 _ (heap_alloc_new w6 _) HIn6.out rfl HOne6.out ?_)
    obtain ⟨W7, N3, hN3, hW7, hq7, hb7⟩ := box_new HJ6.out
    rw [hN3] at hW7
    simp only [Act.put, hN3, hW7]
    have HQ7 := Lib.hid (HQ6.out.trans hq7)
    have HB7 := Lib.hid (HB6.out.q hq7)
    have HK7 := Lib.hid (HK6.out.q hq7)
    have HL7b := Lib.hid hb7
    have HG7 := Lib.hid (HG6.out.q hq7)
    have HT1 := Lib.hid (told_u S1 W7 ev2 (HF6.out.q hq7))
    obtain ⟨T1, hT1⟩ : ∃ T, toldN S1 = T := ⟨_, rfl⟩
    obtain ⟨T2, hT2⟩ : ∃ T, toldN S2 = T := ⟨_, rfl⟩
    rw [hT1] at HT1 HWr
    rw [hT2] at HWr
    have HT2 := Lib.hid hT2
    obtain ⟨e1, p1⟩ := T1
    obtain ⟨e2, p2⟩ := T2
    clear hN3 hW7 hq7 hb7 hT1 hT2 hl7
    go_wp2_with fail
    refine HT1.out.mono ?_
    rintro e w8 ⟨rfl, hq8⟩
    have HQ8 := Lib.hid (HQ7.out.trans hq8)
    have hto := told_u S2 w8 ev3 (HG7.out.q hq8)
    rw [HT2.out] at hto
    have HTo := Lib.hid hto
    have HB8 := Lib.hid (HB7.out.q hq8)
    have HK8 := Lib.hid (HK7.out.q hq8)
    have HL8 := Lib.hid (HL7b.out.q hq8)
    clear hq8 hto HT1
    go_wp2_with fail
    refine HTo.out.mono ?_
    rintro e w9 ⟨rfl, hq9⟩
    have HQ9 := Lib.hid (HQ8.out.trans hq9)
    have HB9 := Lib.hid (HB8.out.q hq9)
    have HK9 := Lib.hid (HK8.out.q hq9)
    have HL9 := Lib.hid (HL8.out.q hq9)
    clear hq9 HTo
    rcases HWr.out with ⟨h1, h2, h3, h4, h5⟩ | ⟨h1, h2⟩
    rotate_left
    · have h1 : e1 = 57 := h1
      have h2 : e2 = 57 := h2
      subst h1 h2
      go_wp2_with fail
      go_ret
      exact ⟨rfl, HQ9.out⟩
    have h1 : e1 = 0 := h1
    have h2 : e2 = 0 := h2
    subst h1 h2
    subst h3 h4
    have HFi5 := Lib.hid h5
    have hfi := Find_any _ [110] w9 _ _ HL9.out.2 (HU.out _ HQ9.out) HBg3.out
    have HFi := Lib.hid hfi
    clear h5 hfi
    obtain ⟨x0, x1, x2, x3⟩ := HL9.out.load
    go_upto_region 13 with (fail)
    go_wp2_with fail
    refine HFi.out.mono ?_
    rintro e w10 ⟨un, uk, rfl, hj10, hq10⟩
    rw [HFi5.out] at hj10
    rw [HFi5.out]
    have hjv10 := hj10.read
    have HQ10 := Lib.hid (HQ9.out.trans hq10)
    have HB10 := Lib.hid (HB9.out.q hq10)
    have HK10 := Lib.hid (HK9.out.q hq10)
    obtain ⟨⟨A7, n7, c7, rfl⟩, A8, n8, c8, rfl⟩ := jv_slices hjv10
    have HJ10 := Lib.hid hjv10
    have HIn10 := Lib.hid (info_sz v1 (.slice A7 n7 c7) (.slice A8 n8 c8))
    have HOne10 := Lib.hid (jv_one hjv10)
    clear x0 x1 x2 x3 hq10 hj10 hjv10 HFi
    go_upto_region 14 with (refine wpList_store_row rfl 40 (.tmp 16) (.tmp 68) rfl w10.heap.size (cellJ v1 (.slice A7 n7 c7) (.slice A8 n8 c8)).toArray rfl rfl 40 _ (heap_alloc_new w10 _) HIn10.out rfl HOne10.out ?_)
    obtain ⟨W11, N4, hN4, hW11, hq11, hb11⟩ := box_new HJ10.out
    rw [hN4] at hW11
    simp only [Act.put, hN4, hW11]
    have HQ11 := Lib.hid (HQ10.out.trans hq11)
    have HB11 := Lib.hid (HB10.out.q hq11)
    have HK11 := Lib.hid (HK10.out.q hq11)
    have HM11 := Lib.hid hb11
    clear hN4 hW11 hq11 hb11
    obtain ⟨A, c, e, hc1, hc2, hk⟩ := HK11.out.2.kidAt
    injection e with e1 e2 e3
    subst e1 e2 e3
    obtain ⟨g, off, u1, u2, hA⟩ := hk 0 (by simp)
    obtain rfl := hA.a
    have hjk : JV W11 v1 u1 u2 := hA.jv
    obtain ⟨⟨A9, n9, c9, rfl⟩, A10, n10, c10, rfl⟩ := jv_slices hjk
    have HSa1 := Lib.hid (fun m : QW W11 => Same_any v1 v1 m.val _ _ _ _ (hjk.q m.le) (HB11.out.2.q m.le) (HU.out _ (HQ11.out.trans m.le)) HBg1.out HBg1.out)
    have HSa2 := Lib.hid (fun m : QW W11 => Same_any v1 v1 m.val _ _ _ _ (HM11.out.2.q m.le) (HB11.out.2.q m.le) (HU.out _ (HQ11.out.trans m.le)) HBg1.out HBg1.out)
    have hsr := HSr.out
    rw [hsr] at HSa1 HSa2
    obtain ⟨k1, t1, ns1, ks1⟩ := v1
    obtain ⟨x0, x1, x2, x3⟩ := HB11.out.load
    obtain ⟨y0, y1, y2, y3⟩ := HM11.out.load
    have z3 : W11.cell? ⟨N2, 3, none⟩ = some (.slice (some ⟨g, off, none⟩) 2 c4) := HK11.out.load.2.2.2
    have r0 : W11.cell? ⟨g, off, none⟩ = some (.int .i64 k1) := by simpa using hA.rg 0 (.int .i64 k1) rfl
    have r1 : W11.cell? ⟨g, off + 1, none⟩ = some (.string ⟨t1.toArray⟩) := by simpa using hA.rg 1 (.string ⟨t1.toArray⟩) rfl
    have r2 : W11.cell? ⟨g, off + 2, none⟩ = some (.slice A9 n9 c9) := by simpa using hA.rg 2 _ rfl
    have r3 : W11.cell? ⟨g, off + 3, none⟩ = some (.slice A10 n10 c10) := by simpa using hA.rg 3 _ rfl
    have a0 : ∀ m : QW W11, m.val.cell? ⟨N1, 0, none⟩ = some (.int .i64 k1) := fun m => m.cell x0
    have a1 : ∀ m : QW W11, m.val.cell? ⟨N1, 1, none⟩ = some (.string ⟨t1.toArray⟩) := fun m => m.cell x1
    have a2 : ∀ m : QW W11, m.val.cell? ⟨N1, 2, none⟩ = some (.slice A1 n1 c1) := fun m => m.cell x2
    have a3 : ∀ m : QW W11, m.val.cell? ⟨N1, 3, none⟩ = some (.slice A2 n2 c2) := fun m => m.cell x3
    have b0 : ∀ m : QW W11, m.val.cell? ⟨N4, 0, none⟩ = some (.int .i64 k1) := fun m => m.cell y0
    have b1 : ∀ m : QW W11, m.val.cell? ⟨N4, 1, none⟩ = some (.string ⟨t1.toArray⟩) := fun m => m.cell y1
    have b2 : ∀ m : QW W11, m.val.cell? ⟨N4, 2, none⟩ = some (.slice A7 n7 c7) := fun m => m.cell y2
    have b3 : ∀ m : QW W11, m.val.cell? ⟨N4, 3, none⟩ = some (.slice A8 n8 c8) := fun m => m.cell y3
    have d3 : ∀ m : QW W11, m.val.cell? ⟨N2, 3, none⟩ = some (.slice (some ⟨g, off, none⟩) 2 c4) := fun m => m.cell z3
    have f0 : ∀ m : QW W11, m.val.cell? ⟨g, off, none⟩ = some (.int .i64 k1) := fun m => m.cell r0
    have f1 : ∀ m : QW W11, m.val.cell? ⟨g, off + 1, none⟩ = some (.string ⟨t1.toArray⟩) := fun m => m.cell r1
    have f2 : ∀ m : QW W11, m.val.cell? ⟨g, off + 2, none⟩ = some (.slice A9 n9 c9) := fun m => m.cell r2
    have f3 : ∀ m : QW W11, m.val.cell? ⟨g, off + 3, none⟩ = some (.slice A10 n10 c10) := fun m => m.cell r3
    clear hk hA hjk hc1 hc2 hsr x0 x1 x2 x3 y0 y1 y2 y3 z3 r0 r1 r2 r3
    have HSb1 : Hid (∀ m : QW W11, Calls Tryd.prog 22 #[.agg #[.int .i64 k1, .string ⟨t1.toArray⟩, .slice A9 n9 c9, .slice A10 n10 c10], .agg #[.int .i64 k1, .string ⟨t1.toArray⟩, .slice A1 n1 c1, .slice A2 n2 c2]] m.val fun e w' => e = .returned (.bool true) ∧ Q m.val w') := HSa1
    have HSb2 : Hid (∀ m : QW W11, Calls Tryd.prog 22 #[.agg #[.int .i64 k1, .string ⟨t1.toArray⟩, .slice A7 n7 c7, .slice A8 n8 c8], .agg #[.int .i64 k1, .string ⟨t1.toArray⟩, .slice A1 n1 c1, .slice A2 n2 c2]] m.val fun e w' => e = .returned (.bool true) ∧ Q m.val w') := HSa2
    clear HSa1 HSa2
    refine wp_region_q (by kernel_rfl) (by kernel_rfl) ?_
    (repeat (go_big_quiet_step (first | (go_at_call 22; with_reducible exact calls_q (HSb1.out _)) | (go_at_call 22; with_reducible exact calls_q (HSb2.out _)))))
    refine wpQuiet_nil ?_
    rintro wb ⟨mb, hmb⟩
    have HX : Hid (Q w wb) := Lib.hid (HQ11.out.trans (by rw [hmb]; exact mb.le))
    clear a0 a1 a2 a3 b0 b1 b2 b3 d3 f0 f1 f2 f3 hmb
    go_wp2_with fail
    go_ret
    exact ⟨rfl, HX.out⟩
end Go.Proofs.YtlhhiiemojhjdaaDoor
