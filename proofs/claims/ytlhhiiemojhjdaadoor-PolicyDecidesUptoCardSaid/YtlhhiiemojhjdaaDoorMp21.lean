/- Texts of this proof, laid into one: KeD, PoL, PoM, PoN. -/
import Derived.Test.YtlhhiiemojhjdaaDoorMp20
/- JsonBack. -/
set_option linter.unusedVariables false
set_option linter.unusedSimpArgs false
namespace Go.Proofs.YtlhhiiemojhjdaaDoor
open Go Go.RowKit
theorem parse_len {s : Txt} {v : JsonD} (h : parseJ s = .ok v) : s.length ≤ 8000 := by
  unfold parseJ at h
  split at h
  · cases h
  · omega
theorem parse_small {s : Txt} (h : s.length ≤ 8000) : parseJ s = parseE s := by
  unfold parseJ parseE
  rw [if_neg (by omega)]
  rfl
theorem rt_parse {s : Txt} {v : JsonD} (h : parseJ s = .ok v) : rtB v 20 8000 = true ∧ numJ v = true := by
  have hl := parse_len h
  rw [parse_small hl] at h
  obtain ⟨h1, h2, h3⟩ := parse_right h hl
  refine ⟨?_, h2⟩
  unfold rtB
  rw [h1]
  simp; omega
theorem same_refl {j : JsonD} (h : rtB j 20 8000 = true) : sameF j j = true := by
  unfold sameF
  rw [h]
  simp only [Bool.true_and]
  exact (eqJ_iff j j).2 rfl
theorem write_ok {j : JsonD} (h1 : rtB j 20 8000 = true) (h2 : numJ j = true) : writeR j = if 8000 < (writeJ j).length then ([], 56) else (writeJ j, 0) := by
  unfold writeR; rw [if_pos ⟨h1, h2⟩]
theorem write_yes {j : JsonD} {t : Txt} (h : writeR j = (t, 0)) : rtB j 20 8000 = true ∧ numJ j = true ∧ t = writeJ j ∧ t.length ≤ 8000 := by
  unfold writeR at h
  split at h
  · next hc =>
    split at h
    · injection h with _ h; cases h
    · next hl =>
      injection h with h _
      exact ⟨hc.1, hc.2, h.symm, by rw [← h]; omega⟩
  · injection h with _ h; cases h
theorem back_parse {j : JsonD} {t : Txt} (h : writeR j = (t, 0)) : parseJ t = .ok j := by
  obtain ⟨h1, h2, h3, h4⟩ := write_yes h
  rw [parse_small h4, h3]
  exact parse_write (rt_wf h1).1 h2
theorem write_code (j : JsonD) : (writeR j).2 = 0 ∨ (writeR j).2 = 54 ∨ (writeR j).2 = 56 := by
  unfold writeR
  split
  · split
    · exact .inr (.inr rfl)
    · exact .inl rfl
  · exact .inr (.inl rfl)
set_option maxRecDepth 100000 in
theorem JsonBack_any (j : JsonD) (s : Txt) (w : World) (vn vk : Value) (hj : JV w j vn vk) (hu : UT w) (hb : bigJ 1100000 j) :
    Calls Tryd.prog 7 #[.agg (cellJ j vn vk).toArray, .string ⟨s.toArray⟩] w fun e w' => e = .returned (.bool true) ∧ Q w w' := by
  have HU : Hid (∀ W, Q w W → UT W) := Lib.hid (fun W hq => Utf8Tabs_below hu hq)
  have HJv := Lib.hid hj
  have HBig := Lib.hid hb
  obtain ⟨⟨A1, n1, c1n, rfl⟩, A2, n2, c2n, rfl⟩ := jv_slices hj
  have HIn := Lib.hid (info_sz j (.slice A1 n1 c1n) (.slice A2 n2 c2n))
  clear hj hu hb
  go_enter Tryd.func7, Tryd.ntmps7
  go_upto_region 1 with (fail)
  have e1 := heap_alloc_new w (.cells (cellJ j (.slice A1 n1 c1n) (.slice A2 n2 c2n)).toArray 40)
  have q1 : Q w (w.alloc (.cells (cellJ j (.slice A1 n1 c1n) (.slice A2 n2 c2n)).toArray 40)) := (Q.refl w).alloc _
  obtain ⟨N0, hN0⟩ : ∃ N, w.heap.size = N := ⟨_, rfl⟩
  obtain ⟨W1, hW1⟩ : ∃ W1, w.alloc (.cells (cellJ j (.slice A1 n1 c1n) (.slice A2 n2 c2n)).toArray 40) = W1 := ⟨_, rfl⟩
  rw [hW1, hN0] at e1
  rw [hW1] at q1
  rw [hW1, hN0]
  have HB1 : Hid (BoxV W1 N0 j (.slice A1 n1 c1n) (.slice A2 n2 c2n)) := Lib.hid ⟨e1, HJv.out.q q1⟩
  have HQ1 := Lib.hid q1
  have HEx := Lib.hid (examples14 W1 (HU.out _ q1))
  clear e1 q1 hN0 hW1
  go_wp2_with fail
  refine HEx.out.mono ?_
  rintro e w2 ⟨rfl, hq2⟩
  have HQ2 := Lib.hid (HQ1.out.trans hq2)
  have HB2 := Lib.hid (HB1.out.q hq2)
  have HRow2 := Lib.hid (HB1.out.q hq2).1
  have hWr := Write_any j w2 _ _ HB2.out.2 (HU.out _ HQ2.out) HBig.out
  obtain ⟨R, hR⟩ : ∃ R, writeR j = R := ⟨_, rfl⟩
  have HR := Lib.hid hR
  rw [hR] at hWr
  have HWr := Lib.hid hWr
  clear hq2 hWr hR HEx
  obtain ⟨t, rc⟩ := R
  go_upto_region 2 with (fail)
  go_wp2_with (refine wpList_load_row rfl 40 (.tmp 2) rfl N0 rfl 40 (cellJ j (.slice A1 n1 c1n) (.slice A2 n2 c2n)).toArray (0, 0) _ HRow2.out Tryd.underlying40 rfl HIn.out ?_; simp only [Act.put, List.setIfInBounds_toArray, List.set_cons_succ, List.set_cons_zero])
  refine HWr.out.mono ?_
  rintro e w3 ⟨rfl, hq3⟩
  have HQ3 := Lib.hid (HQ2.out.trans hq3)
  have HB3 := Lib.hid (HB2.out.q hq3)
  clear hq3 HWr
  go_upto_if 25 with (fail)
  go_cut [] (fun wx => Hid (Q w wx))
  case first =>
    by_cases hrc : rc = 0
    · subst hrc
      have HPb := Lib.hid (parse_any t w3 (HU.out _ HQ3.out))
      have hbp := back_parse HR.out
      have HSm := Lib.hid (same_refl (write_yes HR.out).1)
      go_wp2_with fail
      refine HPb.out.mono ?_
      rintro e w4 ⟨hq4, hp⟩
      rw [hbp] at hp
      obtain ⟨un, uk, rfl, hj4⟩ := hp
      have hjv4 := hj4.read
      have HQ4 := Lib.hid (HQ3.out.trans hq4)
      have HB4 := Lib.hid (HB3.out.q hq4)
      obtain ⟨⟨A3, n3, c3n, rfl⟩, A4, n4, c4n, rfl⟩ := jv_slices hjv4
      have HJ4 := Lib.hid hjv4
      have HIn4 := Lib.hid (info_sz j (.slice A3 n3 c3n) (.slice A4 n4 c4n))
      have HOne4 := Lib.hid (jv_one hjv4)
      clear hq4 hj4 hjv4 hbp HPb
      go_upto_region 5 with (refine wpList_store_row rfl 40 (.tmp 8) (.tmp 29) rfl w4.heap.size (cellJ j (.slice A3 n3 c3n) (.slice A4 n4 c4n)).toArray rfl rfl 40 _ (heap_alloc_new w4 _) HIn4.out rfl HOne4.out ?_)
      obtain ⟨W5, N1, hN1, hW5, hq5, hb5⟩ := box_new HJ4.out
      rw [hN1] at hW5
      simp only [Act.put, hN1, hW5]
      have HB5 := Lib.hid (HB4.out.q hq5)
      have HK5 := Lib.hid hb5
      have HQ5 := Lib.hid (HQ4.out.trans hq5)
      have hSa := Same_any j j W5 _ _ _ _ HB5.out.2 HK5.out.2 (HU.out _ HQ5.out) (bigJ_mono (by decide) _ HBig.out) (bigJ_mono (by decide) _ HBig.out)
      rw [HSm.out] at hSa
      have HSa := Lib.hid hSa
      clear hN1 hW5 hq5 hb5 hSa
      obtain ⟨k, jt, ns, ks⟩ := j
      obtain ⟨x0, x1, x2, x3⟩ := HB5.out.load
      obtain ⟨y0, y1, y2, y3⟩ := HK5.out.load
      go_wp2_with fail
      refine HSa.out.mono ?_
      rintro e w6 ⟨rfl, hq6⟩
      have HQ6 := Lib.hid (HQ5.out.trans hq6)
      clear hq6 x0 x1 x2 x3 y0 y1 y2 y3
      go_wp2_with fail
      go_meet
      exact HQ6
    · have g1 : decide (rc = 0) = false := by simpa using hrc
      go_wp2_with fail
      go_meet
      exact HQ3
  clear HB3 HQ3 HB2 HQ2 HRow2 HB1 HQ1 HR
  have HQc := hcut
  have HPs := Lib.hid (parse_any s wc (HU.out _ HQc.out))
  clear hcut
  cases hps : parseJ s with
  | error ce =>
    go_wp2_with fail
    refine HPs.out.mono ?_
    rintro e w4 ⟨hq4, hp⟩
    rw [hps] at hp
    obtain ⟨bf, rfl, _⟩ := hp
    have HQ4 := Lib.hid (HQc.out.trans hq4)
    have HIn0 := Lib.hid (info_sz zeroJ (.slice none 0 0) (.slice none 0 0))
    have HOne0 := Lib.hid (cellJ_one (j := zeroJ) ⟨none, 0, 0, rfl⟩ ⟨none, 0, 0, rfl⟩)
    have HX : Hid (Q w ((w4.alloc (.cells #[.int .i64 0, .string ⟨#[]⟩, .slice none 0 0, .slice none 0 0] 40)).setRow w4.heap.size zeroC.toArray)) := Lib.hid (HQ4.out.trans (((Q.refl w4).alloc _).setRow (Nat.le_refl _) _))
    clear hq4 hps HPs
    go_wp2_with (refine wpList_store_row rfl 40 (.tmp 10) (.tmp 42) rfl w4.heap.size zeroC.toArray rfl rfl 40 _ (heap_alloc_new w4 _) HIn0.out rfl HOne0.out ?_)
    go_ret
    exact ⟨rfl, HX.out⟩
  | ok v =>
    have HRt := Lib.hid (rt_parse hps)
    have HBg := Lib.hid (bigJ_mono (M := 1100000) (by decide) _ (parse_big hps))
    go_wp2_with fail
    refine HPs.out.mono ?_
    rintro e w4 ⟨hq4, hp⟩
    rw [hps] at hp
    obtain ⟨un, uk, rfl, hj4⟩ := hp
    have hjv4 := hj4.read
    have HQ4 := Lib.hid (HQc.out.trans hq4)
    obtain ⟨⟨A3, n3, c3n, rfl⟩, A4, n4, c4n, rfl⟩ := jv_slices hjv4
    have HJ4 := Lib.hid hjv4
    have HIn4 := Lib.hid (info_sz v (.slice A3 n3 c3n) (.slice A4 n4 c4n))
    have HOne4 := Lib.hid (jv_one hjv4)
    clear hq4 hj4 hjv4 hps HPs
    go_upto_region 8 with (refine wpList_store_row rfl 40 (.tmp 10) (.tmp 42) rfl w4.heap.size (cellJ v (.slice A3 n3 c3n) (.slice A4 n4 c4n)).toArray rfl rfl 40 _ (heap_alloc_new w4 _) HIn4.out rfl HOne4.out ?_)
    obtain ⟨W5, N1, hN1, hW5, hq5, hb5⟩ := box_new HJ4.out
    rw [hN1] at hW5
    simp only [Act.put, hN1, hW5]
    have HK5 := Lib.hid hb5
    have HQ5 := Lib.hid (HQ4.out.trans hq5)
    have HRow5 := Lib.hid hb5.1
    have hWr := Write_any v W5 _ _ HK5.out.2 (HU.out _ HQ5.out) HBg.out
    rw [write_ok HRt.out.1 HRt.out.2] at hWr
    have HWr := Lib.hid hWr
    clear hN1 hW5 hq5 hb5 hWr
    go_upto_region 10 with (fail)
    go_wp2_with (refine wpList_load_row rfl 40 (.tmp 10) rfl N1 rfl 40 (cellJ v (.slice A3 n3 c3n) (.slice A4 n4 c4n)).toArray (0, 0) _ HRow5.out Tryd.underlying40 rfl HIn4.out ?_; simp only [Act.put, List.setIfInBounds_toArray, List.set_cons_succ, List.set_cons_zero])
    refine HWr.out.mono ?_
    rintro e w6 ⟨rfl, hq6⟩
    have HQ6 := Lib.hid (HQ5.out.trans hq6)
    have HK6 := Lib.hid (HK5.out.q hq6)
    clear hq6 HRow5 HWr
    by_cases hlen : 8000 < (writeJ v).length
    · rw [if_pos hlen]
      clear hlen
      go_wp2_with fail
      go_ret
      exact ⟨rfl, HQ6.out⟩
    · rw [if_neg hlen]
      have hWv : writeR v = (writeJ v, 0) := by rw [write_ok HRt.out.1 HRt.out.2, if_neg hlen]
      have hbp := back_parse hWv
      have hln : (writeJ v).length ≤ 8000 := by omega
      obtain ⟨u, hu⟩ : ∃ u, writeJ v = u := ⟨_, rfl⟩
      rw [hu] at hWv hbp hln
      rw [hu]
      have HWv := Lib.hid hWv
      have HLn := Lib.hid hln
      have HPu := Lib.hid (parse_any u w6 (HU.out _ HQ6.out))
      clear hlen hWv hu hln
      go_wp2_with fail
      refine HPu.out.mono ?_
      rintro e w7 ⟨hq7, hp⟩
      rw [hbp] at hp
      obtain ⟨un, uk, rfl, hj7⟩ := hp
      have hjv7 := hj7.read
      have HQ7 := Lib.hid (HQ6.out.trans hq7)
      have HK7 := Lib.hid (HK6.out.q hq7)
      obtain ⟨⟨A5, n5, c5n, rfl⟩, A6, n6, c6n, rfl⟩ := jv_slices hjv7
      have HJ7 := Lib.hid hjv7
      have HIn7 := Lib.hid (info_sz v (.slice A5 n5 c5n) (.slice A6 n6 c6n))
      have HOne7 := Lib.hid (jv_one hjv7)
      clear hq7 hj7 hjv7 hbp HPu
      go_upto_region 14 with (refine wpList_store_row rfl 40 (.tmp 14) (.tmp 58) rfl w7.heap.size (cellJ v (.slice A5 n5 c5n) (.slice A6 n6 c6n)).toArray rfl rfl 40 _ (heap_alloc_new w7 _) HIn7.out rfl HOne7.out ?_)
      obtain ⟨W8, N2, hN2, hW8, hq8, hb8⟩ := box_new HJ7.out
      rw [hN2] at hW8
      simp only [Act.put, hN2, hW8]
      have HL8 := Lib.hid hb8
      have HK8 := Lib.hid (HK7.out.q hq8)
      have HQ8 := Lib.hid (HQ7.out.trans hq8)
      have HRow8 := Lib.hid hb8.1
      have hWr := Write_any v W8 _ _ HL8.out.2 (HU.out _ HQ8.out) HBg.out
      rw [HWv.out] at hWr
      have HWr := Lib.hid hWr
      clear hN2 hW8 hq8 hb8 hWr
      go_wp2_with (refine wpList_load_row rfl 40 (.tmp 14) rfl N2 rfl 40 (cellJ v (.slice A5 n5 c5n) (.slice A6 n6 c6n)).toArray (0, 0) _ HRow8.out Tryd.underlying40 rfl HIn7.out ?_; simp only [Act.put, List.setIfInBounds_toArray, List.set_cons_succ, List.set_cons_zero])
      refine HWr.out.mono ?_
      rintro e w9 ⟨rfl, hq9⟩
      have HQ9 := Lib.hid (HQ8.out.trans hq9)
      have HK9 := Lib.hid (HK8.out.q hq9)
      have HL9 := Lib.hid (HL8.out.q hq9)
      have hSa := Same_any v v w9 _ _ _ _ HK9.out.2 HL9.out.2 (HU.out _ HQ9.out) (bigJ_mono (by decide) _ HBg.out) (bigJ_mono (by decide) _ HBg.out)
      rw [same_refl HRt.out.1] at hSa
      have HSa := Lib.hid hSa
      have g9 : decide ((u.length : Int) ≤ 8000) = true := by have := HLn.out; simp; omega
      clear hq9 hSa HRow8 HWr
      obtain ⟨k, jt, ns, ks⟩ := v
      obtain ⟨x0, x1, x2, x3⟩ := HK9.out.load
      obtain ⟨y0, y1, y2, y3⟩ := HL9.out.load
      go_wp2_with fail
      refine HSa.out.mono ?_
      rintro e w10 ⟨rfl, hq10⟩
      have HX := Lib.hid (HQ9.out.trans hq10)
      clear hq10 x0 x1 x2 x3 y0 y1 y2 y3
      go_wp2_with fail
      go_ret
      exact ⟨rfl, HX.out⟩
end Go.Proofs.YtlhhiiemojhjdaaDoor
/- policy.read: all statements. -/
set_option linter.unusedVariables false
set_option linter.unusedSimpArgs false
namespace Go.Proofs.YtlhhiiemojhjdaaDoor
open Go Go.RowKit
/-- Statements of the call's own, or what was wrong. -/
def ReadP (o : Except (Option (Int × Int)) (List StmtD)) (w : World) (e : Ending) (w' : World) : Prop := Q w w' ∧
  match o with
  | .ok l => ∃ A c, e = .returned (.tuple #[.slice A l.length c, .nilIface]) ∧ StO w.heap.size w' (.slice A l.length c) l
  | .error x => ∃ tx vx, e = .returned (.tuple #[.slice none 0 0, .iface tx vx]) ∧ WrongE w' x (.iface tx vx)
theorem fine_parse {s : Txt} {v : JsonD} (h : parseJ s = .ok v) : FineJ v := by
  have hb := parse_big h
  have hl := parse_len h
  have h' := h
  rw [parse_small hl] at h'
  obtain ⟨h1, h2, h3⟩ := parse_right h' hl
  exact .inr ⟨⟨20, h1⟩, h3, hb⟩
theorem info_stm3 : (Tryd.prog.info? 25).map (fun i => (i.zero, i.size, i.bytes)) = some (some (.agg #[.bool false, .slice none 0 0, .slice none 0 0, .slice none 0 0]), 4, 80) := by kernel_rfl
theorem read_ref {s : Txt} {w w' : World} {o : Except (Option (Int × Int)) (List StmtD)} (hq : Q w w') (h : o = .error none) : ReadP o w (.returned (.tuple #[.slice none 0 0, .iface 41 (.int .i64 58)])) w' := by
  subst h
  exact ⟨hq, _, _, rfl, .inl rfl⟩
theorem ownT_of {base : Nat} {w0 w : World} {A : Option Addr} {n c : Nat} {ls : List Txt} (h : OwnS 9 w0 w (.slice A n c) (ls.map strV)) (hb : base ≤ w0.heap.size) : OwnT base w (.slice A n c) ls := by
  have h1 := ownsRow_low h hb
  unfold OwnT
  rw [List.length_map] at h1
  exact h1
/-- The loop's world. -/
def RdSt (W : World) (L : List JsonD) (k : Nat) (v : Value) (wx : World) : Prop := ∃ l, stmtsJ (L.take k) = some l ∧ l.length = k ∧ StO W.heap.size wx v l ∧ Q W wx
theorem StO.form {base : Nat} {w : World} {v : Value} {l : List StmtD} (h : StO base w v l) : ∃ A c, v = .slice A l.length c := by
  obtain ⟨cells, h1, h2⟩ := h
  exact row_form' h1
theorem drop_gK (l : List JsonD) (k : Nat) (h : k < l.length) : l = l.take k ++ gK l k :: l.drop (k + 1) := by
  rw [gK_get l k h, ← List.drop_eq_getElem_cons h, List.take_append_drop]
set_option maxRecDepth 100000 in
set_option maxHeartbeats 8000000 in
theorem read_any (s : Txt) (w : World) (hu : UT w) : Calls Tryd.prog 36 #[.string ⟨s.toArray⟩] w (ReadP (polR s) w) := by
  have HPa := Lib.hid (parse_any s w hu)
  obtain ⟨O, hO⟩ : ∃ O, polR s = O := ⟨_, rfl⟩
  have HO := Lib.hid hO
  rw [hO]
  clear hO
  go_enter Tryd.func36, Tryd.ntmps36
  go_wp2_with fail
  refine HPa.out.mono ?_
  rintro e w1 ⟨hq1, hp⟩
  have HQ1 := Lib.hid hq1
  clear HPa hq1
  cases hr : parseJ s with
  | error ce =>
    obtain ⟨c, a⟩ := ce
    rw [hr] at hp
    obtain ⟨bf, rfl, hf⟩ := hp
    have hc := parse_code hr
    have HX : Hid (O = .error (some ((c : Int), (a : Int)))) := Lib.hid (by rw [← HO.out]; unfold polR; rw [hr])
    have HF : Hid (FaultJ w1 bf c a ∧ c ≠ 58) := Lib.hid ⟨hf, by omega⟩
    clear hf hr hc
    have ez : Value.agg zeroC.toArray = .agg #[.int .i64 0, .string ⟨#[]⟩, .slice none 0 0, .slice none 0 0] := rfl
    rw [ez]
    clear ez
    go_wp2_with fail
    have HP : Hid (ReadP O w (.returned (.tuple #[.slice none 0 0, .iface 76 (.pointer (some ⟨bf, 0, none⟩))])) (w1.alloc (.cells #[.int .i64 0, .string ⟨#[]⟩, .slice none 0 0, .slice none 0 0] 40))) := Lib.hid (by
      rw [HX.out]
      exact ⟨HQ1.out.alloc _, _, _, rfl, by have := HF.out.2; omega, bf, rfl, HF.out.1.q ((Q.refl w1).alloc _)⟩)
    go_ret2
    exact HP.out
  | ok v =>
    rw [hr] at hp
    obtain ⟨vn, vk, rfl, hj⟩ := hp
    have hjv := hj.read
    have hfi := fine_parse hr
    have HX : Hid (O = match policyJ v with | none => .error none | some l => .ok l) := Lib.hid (by rw [← HO.out]; unfold polR; rw [hr]; rfl)
    obtain ⟨k, t, ns, ks, A1, c1, A2, c2, rfl, rfl, rfl⟩ := hjv.full
    have ez : Value.agg (cellJ (.mk k t ns ks) (.slice A1 ns.length c1) (.slice A2 ks.length c2)).toArray = .agg #[.int .i64 k, .string ⟨t.toArray⟩, .slice A1 ns.length c1, .slice A2 ks.length c2] := rfl
    rw [ez]
    have HJ := Lib.hid hjv
    have HF := Lib.hid hfi
    clear ez hj hjv hfi hr
    go_upto_region 4 with (fail)
    have hr0 := heap_alloc_new w1 (.cells #[.int .i64 k, .string ⟨t.toArray⟩, .slice A1 ns.length c1, .slice A2 ks.length c2] 40)
    obtain ⟨W0, hW0⟩ : ∃ W0, w1.alloc (.cells #[.int .i64 k, .string ⟨t.toArray⟩, .slice A1 ns.length c1, .slice A2 ks.length c2] 40) = W0 := ⟨_, rfl⟩
    have hq0 : Q w1 W0 := by rw [← hW0]; exact (Q.refl w1).alloc _
    obtain ⟨N, hN⟩ : ∃ N, w1.heap.size = N := ⟨_, rfl⟩
    rw [hW0, hN] at hr0
    rw [hW0, hN]
    clear hW0 hN
    have y0 : W0.cell? ⟨N, 0, none⟩ = some (.int .i64 k) := by rw [cell_of_row _ _ _ _ _ _ hr0]; rfl
    have y1 : W0.cell? ⟨N, 1, none⟩ = some (.string ⟨t.toArray⟩) := by rw [cell_of_row _ _ _ _ _ _ hr0]; rfl
    have y2 : W0.cell? ⟨N, 2, none⟩ = some (.slice A1 ns.length c1) := by rw [cell_of_row _ _ _ _ _ _ hr0]; rfl
    have y3 : W0.cell? ⟨N, 3, none⟩ = some (.slice A2 ks.length c2) := by rw [cell_of_row _ _ _ _ _ _ hr0]; rfl
    obtain ⟨W1, hW1⟩ : ∃ W1, W0.alloc (.cells #[.string ⟨#[86, 101, 114, 115, 105, 111, 110]⟩, .string ⟨#[73, 100]⟩, .string ⟨#[83, 116, 97, 116, 101, 109, 101, 110, 116]⟩] 9) = W1 := ⟨_, rfl⟩
    obtain ⟨M1, hM1⟩ : ∃ M1, W0.heap.size = M1 := ⟨_, rfl⟩
    have hns : NsV W1 (.slice (some ⟨M1, 0, none⟩) 3 3) threeN := by rw [← hW1, ← hM1]; exact ns_new W0 threeN (by decide)
    have hq1 : Q W0 W1 := by rw [← hW1]; exact (Q.refl W0).alloc _
    have HQ2 := Lib.hid (HQ1.out.trans (hq0.trans hq1))
    have HOb : Hid (Calls Tryd.prog 59 #[.agg #[.int .i64 k, .string ⟨t.toArray⟩, .slice A1 ns.length c1, .slice A2 ks.length c2], .slice (some ⟨M1, 0, none⟩) 3 3] W1 (ObjP (.mk k t ns ks) threeN W1)) := Lib.hid (object_any k t ns ks A1 A2 c1 c2 threeN (some ⟨M1, 0, none⟩) 3 W1 (HJ.out.q (hq0.trans hq1)) hns HF.out.d.seven HF.out.d.names HF.out.d.short)
    clear hq0 hr0 hns hq1
    go_wp2_with fail
    refine HOb.out.mono ?_
    rintro e w2 ⟨hq2, hc⟩
    have HQ3 := Lib.hid (HQ2.out.trans hq2)
    clear HOb y0 y1 y2 y3 hq2 hW1 hM1
    rcases hc with ⟨ho, b, rfl, hm⟩ | ⟨ho, rfl⟩
    · have HM : Hid (MapB w2 b (ns.zip ks)) := Lib.hid hm
      have HE : Hid (policyJ (.mk k t ns ks) = _) := Lib.hid (policy_eq k t ns ks ho)
      have HLk : Hid (∀ x, FineJ (orJ ((ns.zip ks).lookup x))) := Lib.hid (fun x => HF.out.look x)
      obtain ⟨PJ, hPJ⟩ : ∃ PJ, policyJ (.mk k t ns ks) = PJ := ⟨_, rfl⟩
      obtain ⟨Z, hZ⟩ : ∃ Z, ns.zip ks = Z := ⟨_, rfl⟩
      rw [hPJ] at HX
      rw [hPJ, hZ] at HE
      rw [hZ] at HM HLk
      clear hm ho hZ HF HJ HO hPJ
      obtain ⟨R1, hR1⟩ : ∃ R, isTextJ (Z.lookup nVersion) false [nDate] = R := ⟨_, rfl⟩
      obtain ⟨R2, hR2⟩ : ∃ R, isTextJ (Z.lookup nId) false [] = R := ⟨_, rfl⟩
      rw [hR1, hR2] at HE
      obtain ⟨W4, hW4⟩ : ∃ W4, w2.alloc (.cells #[.string ⟨#[50, 48, 49, 50, 45, 49, 48, 45, 49, 55]⟩] 9) = W4 := ⟨_, rfl⟩
      obtain ⟨M4, hM4⟩ : ∃ M4, w2.heap.size = M4 := ⟨_, rfl⟩
      have hns : NsV W4 (.slice (some ⟨M4, 0, none⟩) 1 1) [nDate] := by rw [← hW4, ← hM4]; exact ns_new w2 [nDate] (by decide)
      have hq4 : Q w2 W4 := by rw [← hW4]; exact (Q.refl w2).alloc _
      have HI1 : Hid (Calls Tryd.prog 60 #[.map (some b), .string ⟨#[86, 101, 114, 115, 105, 111, 110]⟩, .bool false, .slice (some ⟨M4, 0, none⟩) 1 1] W4 fun e w' => e = .returned (.bool R1) ∧ Q W4 w') := Lib.hid (by
        have := isText_any b Z nVersion false [nDate] (some ⟨M4, 0, none⟩) 1 W4 (HM.out.q hq4) (bndS _ (by decide)) hns
        rw [hR1] at this; exact this)
      have HQ4 := Lib.hid (HQ3.out.trans hq4)
      have HM4 := Lib.hid (HM.out.q hq4)
      have HR2 := Lib.hid hR2
      clear hns hq4 HM hR1 hR2
      go_wp2_with fail
      refine HI1.out.mono ?_
      rintro e w5 ⟨rfl, hq5⟩
      have HQ5 := Lib.hid (HQ4.out.trans hq5)
      have HM5 := Lib.hid (HM4.out.q hq5)
      clear hq5 HI1 HM4 hW4 hM4
      cases R1 with
      | false =>
        have HX2 : Hid (O = .error none) := Lib.hid (by rw [HX.out, HE.out]; rfl)
        go_wp2_with fail
        refine (errNone_any _).mono ?_
        rintro e w6 ⟨rfl, hq6⟩
        have HP := Lib.hid (read_ref (s := s) (HQ5.out.trans hq6) HX2.out)
        clear hq6
        go_wp2_with fail
        go_ret2
        exact HP.out
      | true =>
        have HI2 : Hid (Calls Tryd.prog 60 #[.map (some b), .string ⟨#[73, 100]⟩, .bool false, .slice none 0 0] w5 fun e w' => e = .returned (.bool R2) ∧ Q w5 w') := Lib.hid (by
          have := isText_any b Z nId false [] none 0 w5 HM5.out (bndS _ (by decide)) (nilNs w5)
          rw [HR2.out] at this; exact this)
        go_wp2_with fail
        refine HI2.out.mono ?_
        rintro e w6 ⟨rfl, hq6⟩
        have HQ6 := Lib.hid (HQ5.out.trans hq6)
        have HM6 := Lib.hid (HM5.out.q hq6)
        clear hq6 HI2 HM5 HR2
        cases R2 with
        | false =>
          have HX2 : Hid (O = .error none) := Lib.hid (by rw [HX.out, HE.out]; rfl)
          go_wp2_with fail
          refine (errNone_any _).mono ?_
          rintro e w7 ⟨rfl, hq7⟩
          have HP := Lib.hid (read_ref (s := s) (HQ6.out.trans hq7) HX2.out)
          clear hq7
          go_wp2_with fail
          go_ret2
          exact HP.out
        | true =>
          obtain ⟨B1, n1, d1, B2, n2, d2, hjv, -, r2⟩ := HM6.out.look nStatement (bndS _ (by decide))
          have hfi := HLk.out nStatement
          obtain ⟨j2, hj2⟩ : ∃ j2, orJ (Z.lookup nStatement) = j2 := ⟨_, rfl⟩
          replace hjv : JV w6 (orJ (Z.lookup nStatement)) (.slice B1 n1 d1) (.slice B2 n2 d2) := hjv
          replace r2 : (Instr.lookup 94 (.map (some b)) (.string ⟨#[83, 116, 97, 116, 101, 109, 101, 110, 116]⟩) false).run Tryd.prog w6 = .ok (.agg #[.int .i64 (orJ (Z.lookup nStatement)).kind, .string ⟨(orJ (Z.lookup nStatement)).text.toArray⟩, .slice B1 n1 d1, .slice B2 n2 d2]) w6 := r2
          rw [hj2] at hjv r2 hfi HE
          obtain ⟨k2, t2, ns2, ks2, A12, c12, A22, c22, rfl, e1, e2⟩ := hjv.full
          cases e1
          cases e2
          simp only [JsonD.kind, JsonD.text] at r2
          have HJ2 := Lib.hid hjv
          have HF2 := Lib.hid hfi
          clear hjv hfi hj2 HM6
          go_upto_region 11 with (fail)
          have hr7 := heap_alloc_new w6 (.cells #[.int .i64 k2, .string ⟨t2.toArray⟩, .slice B1 ns2.length d1, .slice B2 ks2.length d2] 40)
          obtain ⟨W7, hW7⟩ : ∃ W7, w6.alloc (.cells #[.int .i64 k2, .string ⟨t2.toArray⟩, .slice B1 ns2.length d1, .slice B2 ks2.length d2] 40) = W7 := ⟨_, rfl⟩
          obtain ⟨M7, hM7⟩ : ∃ M7, w6.heap.size = M7 := ⟨_, rfl⟩
          have hq7 : Q w6 W7 := by rw [← hW7]; exact (Q.refl w6).alloc _
          rw [hW7, hM7] at hr7
          have hr8 := heap_alloc_new W7 (.cells #[.int .i64 k2, .string ⟨t2.toArray⟩, .slice B1 ns2.length d1, .slice B2 ks2.length d2] 40)
          have hs7 : W7.heap.size = w6.heap.size + 1 := by rw [← hW7]; simp
          obtain ⟨W8, hW8⟩ : ∃ W8, W7.alloc (.cells #[.int .i64 k2, .string ⟨t2.toArray⟩, .slice B1 ns2.length d1, .slice B2 ks2.length d2] 40) = W8 := ⟨_, rfl⟩
          obtain ⟨M8, hM8⟩ : ∃ M8, w6.heap.size + 1 = M8 := ⟨_, rfl⟩
          have hq8 : Q W7 W8 := by rw [← hW8]; exact (Q.refl W7).alloc _
          rw [hW8, hs7, hM8] at hr8
          have hr78 := hq8.block hr7
          rw [hW7, hW8]
          first | rw [hs7, hM8] | rw [hM8] | skip
          rw [hM7]
          have x0 : W8.cell? ⟨M7, 0, none⟩ = some (.int .i64 k2) := by rw [cell_of_row _ _ _ _ _ _ hr78]; rfl
          have x3 : W8.cell? ⟨M7, 3, none⟩ = some (.slice B2 ks2.length d2) := by rw [cell_of_row _ _ _ _ _ _ hr78]; rfl
          have HQ8 := Lib.hid (HQ6.out.trans (hq7.trans hq8))
          have HQ68 := Lib.hid (hq7.trans hq8)
          have HR8 := Lib.hid hr8
          clear hW7 hM7 hq7 hr7 hs7 hW8 hM8 hq8 hr8 hr78 r2
          by_cases h6 : k2 = 6
          case' pos =>
            subst h6
            go_upto_region 13 with (fail)
            obtain ⟨L, hL⟩ : ∃ L, ks2 = L := ⟨_, rfl⟩
            obtain ⟨A, hA⟩ : ∃ A : Option Addr, B2 = A := ⟨_, rfl⟩
            obtain ⟨m, hm⟩ : ∃ m : Nat, ks2.length = m := ⟨_, rfl⟩
            obtain ⟨c, hc⟩ : ∃ c : Nat, d2 = c := ⟨_, rfl⟩
            have HKd : Hid (KidsV W8 A L) := Lib.hid (by rw [← hL, ← hA]; exact HJ2.out.kids.q HQ68.out)
            have HFi : Hid (∀ i, i < L.length → FineJ (gK L i)) := Lib.hid (by rw [← hL]; exact HF2.out.d.kid)
            have HLm : Hid (L.length = m) := Lib.hid (by rw [← hL, hm])
            have HPJ : Hid (PJ = if 1 ≤ m ∧ m ≤ 10 then stmtsJ L else none) := Lib.hid (by rw [HE.out, if_pos (by rfl), ← hm, ← hL]; rfl)
            rw [hm, hA, hc]
            clear hL hA hm hc x0 x3
          case' neg =>
            have g6 : (k2 == 6) = false := by simpa using h6
            have HN6 := Lib.hid h6
            clear h6
            go_upto_region 13 with (fail)
            obtain ⟨L, hL⟩ : ∃ L, L = [JsonD.mk k2 t2 ns2 ks2] := ⟨_, rfl⟩
            obtain ⟨A, hA⟩ : ∃ A : Option Addr, A = some ⟨M8, 0, none⟩ := ⟨_, rfl⟩
            obtain ⟨m, hm⟩ : ∃ m : Nat, m = 1 := ⟨_, rfl⟩
            obtain ⟨c, hc⟩ : ∃ c : Nat, c = 1 := ⟨_, rfl⟩
            have HKd : Hid (KidsV W8 A L) := Lib.hid (by rw [hA, hL]; exact kids_one HJ2.out HQ68.out HR8.out)
            have HFi : Hid (∀ i, i < L.length → FineJ (gK L i)) := Lib.hid (by
              rw [hL]; intro i hi
              have hi0 : i = 0 := by simpa using hi
              subst hi0; exact HF2.out)
            have HLm : Hid (L.length = m) := Lib.hid (by rw [hL, hm]; rfl)
            have HPJ : Hid (PJ = if 1 ≤ m ∧ m ≤ 10 then stmtsJ L else none) := Lib.hid (by
              have e : allL (JsonD.mk k2 t2 ns2 ks2) = L := by rw [hL]; unfold allL; exact if_neg HN6.out
              rw [HE.out, if_pos (by rfl), e, HLm.out])
            have e1 : Value.slice (some ⟨M8, 0, none⟩) 1 1 = .slice A m c := by rw [hA, hm, hc]
            rw [e1]
            clear hL hA hm hc e1 x0 x3 g6
          all_goals
            clear HE HJ2 HF2 HR8 HQ68
            by_cases hm0 : m = 0
            · subst hm0
              have HX2 : Hid (O = .error none) := Lib.hid (by rw [HX.out, HPJ.out, if_neg (by omega)])
              go_wp2_with fail
              refine (errNone_any _).mono ?_
              rintro e w9 ⟨rfl, hq9⟩
              have HP := Lib.hid (read_ref (s := s) (HQ8.out.trans hq9) HX2.out)
              clear hq9
              go_wp2_with fail
              go_ret2
              exact HP.out
            by_cases hm10 : 10 < m
            · have HX2 : Hid (O = .error none) := Lib.hid (by rw [HX.out, HPJ.out, if_neg (by omega)])
              have g1 : decide ((m : Int) < 1) = false := by simp; omega
              have g2 : decide ((10 : Int) < (m : Int)) = true := by simp; omega
              clear hm0 hm10
              go_wp2_with fail
              refine (errNone_any _).mono ?_
              rintro e w9 ⟨rfl, hq9⟩
              have HP := Lib.hid (read_ref (s := s) (HQ8.out.trans hq9) HX2.out)
              clear hq9
              go_wp2_with fail
              go_ret2
              exact HP.out
            have g1 : decide ((m : Int) < 1) = false := by simp; omega
            have g2 : decide ((10 : Int) < (m : Int)) = false := by simp; omega
            have HPJ2 : Hid (PJ = stmtsJ L) := Lib.hid (by rw [HPJ.out, if_pos (by omega)])
            have hml : m ≤ 10 := by omega
            clear HPJ hm10
            go_upto_region 15 with (fail)
            clear g1 g2
            go_wp2_with fail
            go_loopw [9, 61] (fun o i wx => ∃ (k : Nat) (A' : Option Addr) (c' : Nat), k ≤ m ∧ i = .int .i64 (k : Int) ∧ o = .slice A' k c' ∧ Hid (RdSt W8 L k (.slice A' k c') wx)) (fun _ i _ => m - (intOf i).toNat)
            case atStart => exact ⟨0, none, 0, by omega, rfl, rfl, Lib.hid ⟨[], by rw [List.take_zero]; rfl, rfl, StO.nil _ _, Q.refl _⟩⟩
            case round =>
              obtain ⟨k, A', c', hk, rfl, rfl, HI⟩ := hrel
              rename World => wa
              have hqa : Q W8 wa := by obtain ⟨l, _, _, _, h⟩ := HI.out; exact h
              by_cases hlt : k < m
              · have hd : decide (k < m) = true := by simpa using hlt
                obtain ⟨g, off, E1, m1, e1, E2, m2, e2, rfl, z0, z1, z2, z3, zv⟩ := HKd.out k (by rw [HLm.out]; exact hlt)
                replace z0 := hqa.cell z0
                replace z1 := hqa.cell z1
                replace z2 := hqa.cell z2
                replace z3 := hqa.cell z3
                replace zv := zv.q hqa
                have hfi := HFi.out k (by rw [HLm.out]; exact hlt)
                obtain ⟨j3, hj3⟩ : ∃ j3, gK L k = j3 := ⟨_, rfl⟩
                rw [hj3] at z0 z1 zv hfi
                have HJ3 := Lib.hid hj3
                obtain ⟨k3, t3, ns3, ks3, A13, c13, A23, c23, rfl, e3, e4⟩ := zv.full
                cases e3
                cases e4
                simp only [JsonD.kind, JsonD.text] at z0 z1
                have HZv := Lib.hid zv
                have HFi3 := Lib.hid hfi
                have HQA := Lib.hid hqa
                clear hj3 zv hfi hqa
                go_upto_region 19 with (fail)
                have hr9 := heap_alloc_new wa (.cells #[.int .i64 k3, .string ⟨t3.toArray⟩, .slice E1 ns3.length e1, .slice E2 ks3.length e2] 40)
                obtain ⟨W9, hW9⟩ : ∃ W9, wa.alloc (.cells #[.int .i64 k3, .string ⟨t3.toArray⟩, .slice E1 ns3.length e1, .slice E2 ks3.length e2] 40) = W9 := ⟨_, rfl⟩
                obtain ⟨M9, hM9⟩ : ∃ M9, wa.heap.size = M9 := ⟨_, rfl⟩
                have hq9 : Q wa W9 := by rw [← hW9]; exact (Q.refl wa).alloc _
                rw [hW9, hM9] at hr9
                rw [hW9, hM9]
                have x0 : W9.cell? ⟨M9, 0, none⟩ = some (.int .i64 k3) := by rw [cell_of_row _ _ _ _ _ _ hr9]; rfl
                have x1 : W9.cell? ⟨M9, 1, none⟩ = some (.string ⟨t3.toArray⟩) := by rw [cell_of_row _ _ _ _ _ _ hr9]; rfl
                have x2 : W9.cell? ⟨M9, 2, none⟩ = some (.slice E1 ns3.length e1) := by rw [cell_of_row _ _ _ _ _ _ hr9]; rfl
                have x3 : W9.cell? ⟨M9, 3, none⟩ = some (.slice E2 ks3.length e2) := by rw [cell_of_row _ _ _ _ _ _ hr9]; rfl
                have HSt := Lib.hid (statement_any k3 t3 ns3 ks3 E1 E2 e1 e2 W9 (HZv.out.q hq9) HFi3.out)
                have HQ9 := Lib.hid hq9
                clear hW9 hM9 hq9 hr9 z0 z1 z2 z3
                go_wp2_with fail
                refine HSt.out.mono ?_
                rintro e w10 ⟨hq10, al, X1, X2, X3, p1, p2, p3, q1, q2, q3, ev, rfl, hc⟩
                have HQ10 := Lib.hid (HQ9.out.trans hq10)
                clear HSt x0 x1 x2 x3 hq10
                cases hs : stmtJ (.mk k3 t3 ns3 ks3) with
                | none =>
                  rw [hs] at hc
                  obtain ⟨tx, vx, rfl, hwr⟩ := hc
                  have HX2 : Hid (O = .error none) := Lib.hid (by
                    rw [HX.out, HPJ2.out, drop_gK L k (by rw [HLm.out]; exact hlt), HJ3.out, stmts_no _ _ _ hs])
                  have HP : Hid (ReadP O w (.returned (.tuple #[.slice none 0 0, .iface tx vx])) (w10.alloc (.cells #[.bool al, .slice X1 p1 q1, .slice X2 p2 q2, .slice X3 p3 q3] 25))) := Lib.hid (by
                    rw [HX2.out]
                    exact ⟨(HQ8.out.trans (HQA.out.trans HQ10.out)).alloc _, tx, vx, rfl, hwr.q ((Q.refl w10).alloc _)⟩)
                  clear hwr hs
                  go_wp2_with fail
                  go_ret2
                  exact HP.out
                | some sd =>
                  rw [hs] at hc
                  obtain ⟨rfl, hal, -, -, -, ho1, ho2, ho3⟩ := hc
                  have HAl := Lib.hid hal
                  have HS := Lib.hid hs
                  clear hal hs
                  go_upto_region 22 with (fail)
                  have hr11 := heap_alloc_new w10 (.cells #[.bool al, .slice X1 p1 q1, .slice X2 p2 q2, .slice X3 p3 q3] 25)
                  obtain ⟨W11, hW11⟩ : ∃ W11, w10.alloc (.cells #[.bool al, .slice X1 p1 q1, .slice X2 p2 q2, .slice X3 p3 q3] 25) = W11 := ⟨_, rfl⟩
                  obtain ⟨M11, hM11⟩ : ∃ M11, w10.heap.size = M11 := ⟨_, rfl⟩
                  have hq11 : Q w10 W11 := by rw [← hW11]; exact (Q.refl w10).alloc _
                  rw [hW11, hM11] at hr11
                  rw [hW11, hM11]
                  have x0 : W11.cell? ⟨M11, 0, none⟩ = some (.bool al) := by rw [cell_of_row _ _ _ _ _ _ hr11]; rfl
                  have x1 : W11.cell? ⟨M11, 1, none⟩ = some (.slice X1 p1 q1) := by rw [cell_of_row _ _ _ _ _ _ hr11]; rfl
                  have x2 : W11.cell? ⟨M11, 2, none⟩ = some (.slice X2 p2 q2) := by rw [cell_of_row _ _ _ _ _ _ hr11]; rfl
                  have x3 : W11.cell? ⟨M11, 3, none⟩ = some (.slice X3 p3 q3) := by rw [cell_of_row _ _ _ _ _ _ hr11]; rfl
                  have hr12 := heap_alloc_new W11 (.cells #[.bool al, .slice X1 p1 q1, .slice X2 p2 q2, .slice X3 p3 q3] 25)
                  have hq12 : Q W11 (W11.alloc (.cells #[.bool al, .slice X1 p1 q1, .slice X2 p2 q2, .slice X3 p3 q3] 25)) := (Q.refl W11).alloc _
                  have hqw : Q w10 (W11.alloc (.cells #[.bool al, .slice X1 p1 q1, .slice X2 p2 q2, .slice X3 p3 q3] 25)) := hq11.trans hq12
                  have hqb : Q W8 (W11.alloc (.cells #[.bool al, .slice X1 p1 q1, .slice X2 p2 q2, .slice X3 p3 q3] 25)) := HQA.out.trans (HQ10.out.trans hqw)
                  obtain ⟨l, hl1, hl2, hl3, hl4⟩ := HI.out
                  obtain ⟨cells, hrow, hstk⟩ := hl3.q (HQ10.out.trans hqw)
                  rw [hl2] at hrow
                  have hlow : W8.heap.size ≤ W9.heap.size := (HQA.out.trans HQ9.out).size
                  have HO1 : Hid (OwnT W8.heap.size (W11.alloc (.cells #[.bool al, .slice X1 p1 q1, .slice X2 p2 q2, .slice X3 p3 q3] 25)) (.slice X1 p1 q1) sd.who ∧ OwnT W8.heap.size (W11.alloc (.cells #[.bool al, .slice X1 p1 q1, .slice X2 p2 q2, .slice X3 p3 q3] 25)) (.slice X2 p2 q2) sd.acts ∧ OwnT W8.heap.size (W11.alloc (.cells #[.bool al, .slice X1 p1 q1, .slice X2 p2 q2, .slice X3 p3 q3] 25)) (.slice X3 p3 q3) sd.ress) := Lib.hid
                    ⟨ownT_of (ho1.q hqw) hlow, ownT_of (ho2.q hqw) hlow, ownT_of (ho3.q hqw) hlow⟩
                  have HNw : Hid (∀ (j : Nat) u, [Value.bool al, .slice X1 p1 q1, .slice X2 p2 q2, .slice X3 p3 q3][j]? = some u → (W11.alloc (.cells #[.bool al, .slice X1 p1 q1, .slice X2 p2 q2, .slice X3 p3 q3] 25)).cell? ((⟨W11.heap.size, 0, none⟩ : Addr).add j) = some u) := Lib.hid (fun j u hj => by
                    have hj4 := (List.getElem?_eq_some_iff.1 hj).1
                    rw [add_off, cell_of_row _ _ _ _ _ _ hr12, Nat.zero_add]
                    rw [← Array.getElem?_toList]; exact hj)
                  have HRow := Lib.hid hrow
                  have HStk := Lib.hid hstk
                  have HL1 := Lib.hid hl1
                  have HL2 := Lib.hid hl2
                  have HQb := Lib.hid hqb
                  have HSz := Lib.hid hqb.size
                  clear hW11 hM11 hq11 hr11 hr12 hq12 hqw hqb hl1 hl2 hl3 hl4 hrow hstk hlow ho1 ho2 ho3 HI
                  obtain ⟨ti, hi, hz0, hz1, hz2⟩ := info_parts info_stm3
                  go_wp2_with (at_builtin; refine wpList_append_own (w := W11.alloc (.cells #[.bool al, .slice X1 p1 q1, .slice X2 p2 q2, .slice X3 p3 q3] 25)) rfl (.tmp 73) (.tmp 75) 22 rfl W8.heap.size 25 ti _ 4 80 Tryd.underlying22 hi hz0 hz1 hz2 rfl (by decide) (.slice A' k c') k cells rfl HRow.out ⟨W11.heap.size, 0, none⟩ 1 1 [.bool al, .slice X1 p1 q1, .slice X2 p2 q2, .slice X3 p3 q3] rfl rfl HNw.out (by simp [Value.oneCell']) (by unfold maxLen; omega) (by omega) HSz.out ?_)
                  intro v' w13 hown13 hgrow13 _
                  have hst : StO W8.heap.size w13 v' (l ++ [sd]) := by
                    have e : stmC sd (.slice X1 p1 q1) (.slice X2 p2 q2) (.slice X3 p3 q3) = [.bool al, .slice X1 p1 q1, .slice X2 p2 q2, .slice X3 p3 q3] := by rw [HAl.out]; rfl
                    exact StO.push (by rw [HL2.out]; exact HRow.out) HStk.out hgrow13 (by rw [HL2.out, e]; exact hown13) HO1.out.1 HO1.out.2.1 HO1.out.2.2
                  have hqn : Q W8 w13 := HQb.out.grown hgrow13 HSz.out (fun k hk => (ownsRow_base HRow.out hk).1)
                  obtain ⟨A'', c'', hv'⟩ := row_form' hown13
                  subst hv'
                  have HN : Hid (RdSt W8 L (k + 1) (.slice A'' (k + 1) c'') w13) := Lib.hid ⟨l ++ [sd], by rw [gK_take L k (by rw [HLm.out]; exact hlt), HJ3.out]; exact stmts_snoc _ _ HL1.out HS.out, by rw [List.length_append, HL2.out]; rfl, hst, hqn⟩
                  clear hst hqn hown13 hgrow13 x0 x1 x2 x3
                  go_wp2_with fail
                  go_roundw
                  case rel => exact ⟨k + 1, A'', c'', by omega, by go_num, rfl, HN⟩
                  case measure => simp [intOf]; omega
              · have hd : decide (k < m) = false := by simpa using hlt
                have HP : Hid (ReadP O w (.returned (.tuple #[.slice A' k c', .nilIface])) wa) := Lib.hid (by
                  obtain ⟨l, h1, h2, h3, h4⟩ := HI.out
                  rw [List.take_of_length_le (by rw [HLm.out]; omega)] at h1
                  rw [HX.out, HPJ2.out, h1]
                  exact ⟨HQ8.out.trans h4, A', c', by rw [h2], by rw [h2]; exact h3.low HQ8.out.size⟩)
                clear HI hqa
                go_wp2_with fail
                go_ret2
                exact HP.out
    · have HX2 : Hid (O = .error none) := Lib.hid (by rw [HX.out, policy_no k t ns ks ho])
      have HP := Lib.hid (read_ref (s := s) HQ3.out HX2.out)
      clear ho
      go_wp2_with fail
      go_ret2
      exact HP.out
end Go.Proofs.YtlhhiiemojhjdaaDoor
/- policy.Parse. -/
set_option linter.unusedVariables false
set_option linter.unusedSimpArgs false
namespace Go.Proofs.YtlhhiiemojhjdaaDoor
open Go Go.RowKit
/-- A policy's statements, or the refusal. -/
def PolP (o : Except (Option (Int × Int)) (List StmtD)) (w : World) (e : Ending) (w' : World) : Prop := Q w w' ∧
  match o with
  | .ok l => ∃ A c, e = .returned (.tuple #[.slice A l.length c, .nilIface]) ∧ StO w.heap.size w' (.slice A l.length c) l
  | .error x => ∃ b, e = .returned (.tuple #[.slice none 0 0, .iface 76 (.pointer (some ⟨b, 0, none⟩))]) ∧ RefE w' x (.iface 76 (.pointer (some ⟨b, 0, none⟩)))
set_option maxRecDepth 100000 in
theorem policy_any (s : Txt) (w : World) (hu : UT w) : Calls Tryd.prog 15 #[.string ⟨s.toArray⟩] w (PolP (polR s) w) := by
  have HPa := Lib.hid (read_any s w hu)
  obtain ⟨O, hO⟩ : ∃ O, polR s = O := ⟨_, rfl⟩
  rw [hO] at HPa ⊢
  clear hO hu
  go_enter Tryd.func15, Tryd.ntmps15
  go_wp2_with fail
  refine HPa.out.mono ?_
  rintro e w1 ⟨hq1, hp⟩
  have HQ1 := Lib.hid hq1
  clear HPa hq1
  cases O with
  | error x =>
    obtain ⟨tx, vx, rfl, hw⟩ := hp
    have HRf := Lib.hid (refused_any x (.iface tx vx) w1 hw)
    clear hw
    go_wp2_with fail
    refine HRf.out.mono ?_
    rintro e w2 ⟨⟨u, rfl, hr⟩, hq2⟩
    obtain ⟨b, rfl, hr2⟩ := hr
    have HP : Hid (PolP (.error x) w (.returned (.tuple #[.slice none 0 0, .iface 76 (.pointer (some ⟨b, 0, none⟩))])) w2) := Lib.hid ⟨HQ1.out.trans hq2, b, rfl, b, rfl, hr2⟩
    clear hr2 hq2
    go_wp2_with fail
    go_ret2
    exact HP.out
  | ok l =>
    obtain ⟨A, c, rfl, hs⟩ := hp
    have HP : Hid (PolP (.ok l) w (.returned (.tuple #[.slice A l.length c, .nilIface])) w1) := Lib.hid ⟨HQ1.out, A, c, rfl, hs⟩
    clear hs
    go_wp2_with fail
    go_ret2
    exact HP.out
end Go.Proofs.YtlhhiiemojhjdaaDoor
/- Law 18: the chapter's examples. -/
set_option linter.unusedVariables false
set_option linter.unusedSimpArgs false
namespace Go.Proofs.YtlhhiiemojhjdaaDoor
open Go Go.RowKit
def exP : Txt := [123, 34, 83, 116, 97, 116, 101, 109, 101, 110, 116, 34, 58, 123, 34, 69, 102, 102, 101, 99, 116, 34, 58, 34, 68, 101, 110, 121, 34, 44, 34, 80, 114, 105, 110, 99, 105, 112, 97, 108, 34, 58, 123, 34, 65, 87, 83, 34, 58, 91, 34, 120, 34, 44, 34, 121, 34, 93, 125, 44, 34, 65, 99, 116, 105, 111, 110, 34, 58, 34, 115, 51, 58, 42, 34, 44, 34, 82, 101, 115, 111, 117, 114, 99, 101, 34, 58, 34, 42, 34, 125, 125]
def exL : List StmtD := [⟨false, [[120], [121]], [[115, 51, 58, 42]], [[42]]⟩]
theorem exP_pol : polR exP = .ok exL := by kernel_rfl
theorem exB_pol : polR [91, 93] = .error none := by kernel_rfl
def exG : Txt := [115, 51, 58, 71, 101, 116, 79, 98, 106, 101, 99, 116]
theorem exL_x : decideL exL [120] exG [114] = 2 := by kernel_rfl
theorem exL_z : decideL exL [122] exG [114] = 0 := by kernel_rfl
theorem exM1 : matL [97, 42, 99, 63] [97, 98, 98, 99, 100] = true := by kernel_rfl
theorem exM2 : matL [63] [] = false := by kernel_rfl
theorem exL_sh : ∀ i, i < exL.length → ShS (gSt exL i) := by
  intro i hi
  have : i = 0 := by have : exL.length = 1 := rfl; omega
  subst this
  refine ⟨fun i hi => ?_, fun i hi => ?_⟩
  · have h : i = 0 := by have : (gSt exL 0).acts.length = 1 := rfl; omega
    subst h; decide
  · have h : i = 0 := by have : (gSt exL 0).ress.length = 1 := rfl; omega
    subst h; decide
set_option maxRecDepth 100000 in
theorem examples18 (w : World) (hu : UT w) : Calls Tryd.prog 12 #[] w fun e w' => e = .returned (.bool true) ∧ Q w w' := by
  have HU := Lib.hid hu
  have HPa := Lib.hid (policy_any exP w hu)
  clear hu
  go_enter Tryd.func12, Tryd.ntmps12
  go_wp2_with fail
  refine HPa.out.mono ?_
  rintro e w1 ⟨hq1, hp⟩
  rw [exP_pol] at hp
  obtain ⟨A, c, rfl, hs⟩ := hp
  have HQ1 := Lib.hid hq1
  have HS1 := Lib.hid hs.read
  have HPb := Lib.hid (policy_any [91, 93] w1 (Utf8Tabs_below HU.out hq1))
  clear hq1 hs HPa
  have el : exL.length = 1 := rfl
  rw [el]
  go_wp2_with fail
  refine HPb.out.mono ?_
  rintro e w2 ⟨hq2, hp⟩
  rw [exB_pol] at hp
  obtain ⟨b, rfl, -⟩ := hp
  have HQ2 := Lib.hid (HQ1.out.trans hq2)
  have HS2 := Lib.hid (HS1.out.q hq2)
  clear hq2 HPb
  obtain ⟨A', c', eA, -, -, hst⟩ := HS2.out
  rw [el] at eA
  cases eA
  obtain ⟨g, off, va, vb, vc, rfl, ⟨n1, n2, n3⟩, x0, x1, x2, x3⟩ := hst 0 (by decide)
  obtain ⟨B1, d1, rfl⟩ := n1.slice
  obtain ⟨B2, d2, e2, -, -, hn2⟩ := n2.at
  subst e2
  obtain ⟨B3, d3, rfl⟩ := n3.slice
  obtain ⟨g2, off2, rfl, z0⟩ := hn2 0 (by decide)
  replace x0 : w2.cell? ⟨g, off, none⟩ = some (.bool false) := x0
  replace x1 : w2.cell? ⟨g, off + 1, none⟩ = some (.slice B1 2 d1) := by rw [Nat.zero_mul, Nat.add_zero] at x1; exact x1
  replace x2 : w2.cell? ⟨g, off + 2, none⟩ = some (.slice (some ⟨g2, off2, none⟩) 1 d2) := by rw [Nat.zero_mul, Nat.add_zero] at x2; exact x2
  replace z0 : w2.cell? ⟨g2, off2, none⟩ = some (.string ⟨#[115, 51, 58, 42]⟩) := z0
  clear n1 n2 n3 hn2 hst x3 el
  have HM1 : Hid (∀ W, Calls Tryd.prog 14 #[.string ⟨#[97, 42, 99, 63]⟩, .string ⟨#[97, 98, 98, 99, 100]⟩] W fun e w' => e = .returned (.bool true) ∧ Q W w') := Lib.hid (fun W => by
    have := Match_any [97, 42, 99, 63] [97, 98, 98, 99, 100] W (by decide) (by decide)
    rw [exM1] at this; exact this)
  have HM2 : Hid (∀ W, Calls Tryd.prog 14 #[.string ⟨#[63]⟩, .string ⟨#[]⟩] W fun e w' => e = .returned (.bool false) ∧ Q W w') := Lib.hid (fun W => by
    have := Match_any [63] [] W (by decide) (by decide)
    rw [exM2] at this; exact this)
  go_wp2_with fail
  refine (HM1.out _).mono ?_
  rintro e w3 ⟨rfl, hq3⟩
  have HQ3 := Lib.hid hq3
  clear hq3 HM1
  go_wp2_with fail
  refine (HM2.out _).mono ?_
  rintro e w4 ⟨rfl, hq4⟩
  have HQ4 := Lib.hid (HQ3.out.trans hq4)
  clear hq4 HM2
  have HD1 : Hid (Calls Tryd.prog 13 #[.slice (some ⟨g, off, none⟩) 1 c, .string ⟨#[120]⟩, .string ⟨#[115, 51, 58, 71, 101, 116, 79, 98, 106, 101, 99, 116]⟩, .string ⟨#[114]⟩] w4 fun e w' => e = .returned (.int .i64 2) ∧ Q w4 w') := Lib.hid (by
    have := Decide_any exL [120] exG [114] _ w4 (HS2.out.q HQ4.out) exL_sh (by decide) (by decide)
    rw [exL_x] at this; exact this)
  go_wp2_with fail
  refine HD1.out.mono ?_
  rintro e w5 ⟨rfl, hq5⟩
  have HQ5 := Lib.hid (HQ4.out.trans hq5)
  clear hq5 HD1
  have HD2 : Hid (Calls Tryd.prog 13 #[.slice (some ⟨g, off, none⟩) 1 c, .string ⟨#[122]⟩, .string ⟨#[115, 51, 58, 71, 101, 116, 79, 98, 106, 101, 99, 116]⟩, .string ⟨#[114]⟩] w5 fun e w' => e = .returned (.int .i64 0) ∧ Q w5 w') := Lib.hid (by
    have := Decide_any exL [122] exG [114] _ w5 (HS2.out.q HQ5.out) exL_sh (by decide) (by decide)
    rw [exL_z] at this; exact this)
  go_wp2_with fail
  refine HD2.out.mono ?_
  rintro e w6 ⟨rfl, hq6⟩
  have HQ6 := Lib.hid (HQ2.out.trans (HQ5.out.trans hq6))
  clear hq6 HD2
  go_wp2_with fail
  go_ret
  exact ⟨rfl, HQ6.out⟩
end Go.Proofs.YtlhhiiemojhjdaaDoor
