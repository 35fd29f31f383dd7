/- Texts of this proof, laid into one: PoV, PoW. -/
import Derived.Test.YtlhhiiemojhjdaaDoorMp23
/- The document's any and Decide. -/
set_option linter.unusedVariables false
set_option linter.unusedSimpArgs false
namespace Go.Proofs.YtlhhiiemojhjdaaDoor
open Go Go.RowKit
theorem anyM_drop (l : List Txt) (s : Txt) (k : Nat) (h : k < l.length) : (l.drop k).any (fun p => matL p s) = (matL (gL l k) s || (l.drop (k + 1)).any (fun p => matL p s)) := by
  rw [gL_drop l k h, List.any_cons]
set_option maxRecDepth 100000 in
theorem Rany_any (ns : List Txt) (s : Txt) (v : Value) (w : World) (hv : NsV w v ns) (hn : Sh ns) (hs : s.length ≤ 1000000000) : Calls Tryd.prog 39 #[v, .string ⟨s.toArray⟩] w fun e w' => e = .returned (.bool (anyM ns s)) ∧ Q w w' := by
  obtain ⟨A, c, rfl, h1, h2, hc⟩ := hv.at
  obtain ⟨R, hR⟩ : ∃ R, anyM ns s = R := ⟨_, rfl⟩
  have HR := Lib.hid hR
  rw [hR]
  have HC := Lib.hid hc
  have HS := Lib.hid hn
  have HSl := Lib.hid hs
  have hnl : ns.length ≤ 9223372036854775807 := by omega
  clear hv hc hn h1 h2 hs hR
  go_enter Tryd.func39, Tryd.ntmps39
  go_wp2_with fail
  go_loopw [5] (fun i wx => ∃ k : Nat, k ≤ ns.length ∧ i = .int .i64 (k : Int) ∧ Hid ((ns.drop k).any (fun p => matL p s) = R ∧ Q w wx)) (fun i _ => ns.length - (intOf i).toNat)
  case atStart => exact ⟨0, by omega, rfl, Lib.hid ⟨HR.out, Q.refl w⟩⟩
  case round =>
    obtain ⟨k, hk, rfl, HI⟩ := hrel
    rename World => wa
    by_cases hlt : k < ns.length
    · have hd : decide (k < ns.length) = true := by simpa using hlt
      obtain ⟨g, off, rfl, x0⟩ := HC.out k hlt
      replace x0 := HI.out.2.cell x0
      have hE := HI.out.1
      rw [anyM_drop ns s k hlt] at hE
      have hsh := HS.out k hlt
      obtain ⟨t, ht⟩ : ∃ t, gL ns k = t := ⟨_, rfl⟩
      rw [ht] at x0 hE hsh
      obtain ⟨r, hr⟩ : ∃ r, matL t s = r := ⟨_, rfl⟩
      have HM : Hid (Calls Tryd.prog 17 #[.string ⟨t.toArray⟩, .string ⟨s.toArray⟩] wa fun e w' => e = .returned (.bool r) ∧ Q wa w') := Lib.hid (by
        have := RMatch_any t s wa hsh HSl.out; rw [hr] at this; exact this)
      rw [hr] at hE
      have HE := Lib.hid hE
      have HQ := Lib.hid HI.out.2
      clear ht hr hE hsh HI
      cases r with
      | true =>
        have HX : Hid (true = R) := Lib.hid (by have := HE.out; simpa using this)
        go_wp2_with fail
        refine HM.out.mono ?_
        rintro e w1 ⟨rfl, hq1⟩
        have HQ1 := Lib.hid (HQ.out.trans hq1)
        clear hq1 HM
        go_wp2_with fail
        go_ret
        exact ⟨by rw [← HX.out]; rfl, HQ1.out⟩
      | false =>
        have HX : Hid ((ns.drop (k + 1)).any (fun p => matL p s) = R) := Lib.hid (by have := HE.out; simpa using this)
        go_wp2_with fail
        refine HM.out.mono ?_
        rintro e w1 ⟨rfl, hq1⟩
        have HN : Hid ((ns.drop (k + 1)).any (fun p => matL p s) = R ∧ Q w w1) := Lib.hid ⟨HX.out, HQ.out.trans hq1⟩
        clear hq1 HM
        go_wp2_with fail
        go_roundw
        case rel => exact ⟨k + 1, by omega, by go_num, HN⟩
        case measure => simp [intOf]; omega
    · have hd : decide (k < ns.length) = false := by simpa using hlt
      have HX : Hid (false = R) := Lib.hid (by have := HI.out.1; rw [List.drop_of_length_le (by omega)] at this; simpa using this)
      have HQ := Lib.hid HI.out.2
      clear HI
      go_wp2_with fail
      go_ret
      exact ⟨by rw [← HX.out]; rfl, HQ.out⟩
theorem who_take (l : List Txt) (u : Txt) (k : Nat) (h : k < l.length) : (l.take (k + 1)).any (whoP u) = ((l.take k).any (whoP u) || whoP u (gL l k)) := by
  rw [List.take_succ_eq_append_getElem h, List.any_append]
  have : gL l k = l[k] := by simp [gL, List.getD, h]
  rw [this]; simp
set_option maxRecDepth 100000 in
set_option maxHeartbeats 8000000 in
theorem RDecide_any (l : List StmtD) (user action resource : Txt) (v : Value) (w : World) (hv : StsV w v l) (hs : ∀ i, i < l.length → ShS (gSt l i)) (ha : action.length ≤ 1000000000) (hr : resource.length ≤ 1000000000) :
    Calls Tryd.prog 18 #[v, .string ⟨user.toArray⟩, .string ⟨action.toArray⟩, .string ⟨resource.toArray⟩] w fun e w' => e = .returned (.int .i64 ((decideL l user action resource : Nat) : Int)) ∧ Q w w' := by
  obtain ⟨A, c, rfl, hc1, hc2, hc3⟩ := hv
  obtain ⟨R, hR⟩ : ∃ R, decideL l user action resource = R := ⟨_, rfl⟩
  rw [hR]
  have HR := Lib.hid hR
  have HC := Lib.hid hc3
  have HS := Lib.hid hs
  have HA := Lib.hid ha
  have HRs := Lib.hid hr
  have hll : l.length ≤ 9223372036854775807 := by omega
  clear hR hc3 hs ha hr hc1 hc2
  go_enter Tryd.func18, Tryd.ntmps18
  go_wp2_with fail
  go_loopw [9, 10] (fun o i wx => ∃ (k O : Nat), k ≤ l.length ∧ O ≤ 1 ∧ o = .int .i64 (O : Int) ∧ i = .int .i64 (k : Int) ∧ Hid (Q w wx ∧ max O (decideL (l.drop k) user action resource) = R)) (fun _ i _ => l.length - (intOf i).toNat)
  case atStart => exact ⟨0, 0, by omega, by omega, rfl, rfl, Lib.hid ⟨Q.refl w, by rw [List.drop_zero, HR.out]; omega⟩⟩
  case round =>
    obtain ⟨k, O, hk, hO, rfl, rfl, HI⟩ := hrel
    rename World => wa
    by_cases hlt : k < l.length
    · have hd : decide (k < l.length) = true := by simpa using hlt
      obtain ⟨g, off, va, vb, vc, rfl, hst, x0, x1, x2, x3⟩ := HC.out k hlt
      have hqa : Q w wa := HI.out.1
      have hsh := HS.out k hlt
      have hE := HI.out.2
      rw [gSt_drop l k hlt, decideL] at hE
      obtain ⟨s, hse⟩ : ∃ s, gSt l k = s := ⟨_, rfl⟩
      rw [hse] at hst x0 hsh hE
      obtain ⟨al, who, acts, ress⟩ := s
      obtain ⟨hva, hvb, hvc⟩ := hst
      simp only at hva hvb hvc x0
      obtain ⟨A1, c1, e1, hw1, hw2, hwc⟩ := hva.at
      subst e1
      obtain ⟨A2, c2, rfl⟩ := hvb.slice
      obtain ⟨A3, c3, rfl⟩ := hvc.slice
      have HWc := Lib.hid hwc
      have HX : Hid (∀ W, Q w W → W.cell? ⟨g, off + k * 4, none⟩ = some (.bool al) ∧ W.cell? ⟨g, off + k * 4 + 1, none⟩ = some (.slice A1 who.length c1) ∧ W.cell? ⟨g, off + k * 4 + 2, none⟩ = some (.slice A2 acts.length c2) ∧ W.cell? ⟨g, off + k * 4 + 3, none⟩ = some (.slice A3 ress.length c3)) := Lib.hid (fun W hq => ⟨hq.cell x0, hq.cell x1, hq.cell x2, hq.cell x3⟩)
      have HC2 : Hid (∀ X, Q w X → Calls Tryd.prog 39 #[.slice A2 acts.length c2, .string ⟨action.toArray⟩] X fun e w' => e = .returned (.bool (anyM acts action)) ∧ Q X w') := Lib.hid (fun X hX => Rany_any acts action _ X (hvb.mono (fun _ _ => hX.cell)) hsh.1 HA.out)
      have HC3 : Hid (∀ X, Q w X → Calls Tryd.prog 39 #[.slice A3 ress.length c3, .string ⟨resource.toArray⟩] X fun e w' => e = .returned (.bool (anyM ress resource)) ∧ Q X w') := Lib.hid (fun X hX => Rany_any ress resource _ X (hvc.mono (fun _ _ => hX.cell)) hsh.2 HRs.out)
      have hwl : who.length ≤ 9223372036854775807 := by omega
      unfold fitS at hE
      simp only at hE
      have HE := Lib.hid hE
      have HQa := Lib.hid hqa
      clear hva hvb hvc hwc hse hsh hE hqa x0 x1 x2 x3 HI hw1 hw2
      obtain ⟨x0, x1, x2, x3⟩ := HX.out wa HQa.out
      go_upto_region 7 with (fail)
      clear x0 x2 x3
      go_loopw [11, 12] (fun b i wx => ∃ j : Nat, j ≤ who.length ∧ i = .int .i64 (j : Int) ∧ b = .bool ((who.take j).any (whoP user)) ∧ Hid (Q w wx)) (fun _ i _ => who.length - (intOf i).toNat)
      case atStart => exact ⟨0, by omega, rfl, rfl, HQa⟩
      case round =>
        obtain ⟨j, hj, rfl, rfl, HJ⟩ := hrel
        rename World => wb
        obtain ⟨y0, y1, y2, y3⟩ := HX.out wb HJ.out
        by_cases hjl : j < who.length
        · have hdj : decide (j < who.length) = true := by simpa using hjl
          obtain ⟨g1, off1, rfl, z0⟩ := HWc.out j hjl
          replace z0 := HJ.out.cell z0
          have hnx := who_take who user j hjl
          obtain ⟨p, hp⟩ : ∃ p, gL who j = p := ⟨_, rfl⟩
          obtain ⟨r, hr⟩ : ∃ r, (who.take j).any (whoP user) = r := ⟨_, rfl⟩
          rw [hp] at z0 hnx
          rw [hr] at hnx ⊢
          have HN := Lib.hid hnx
          clear hnx hr hp y0 y2 y3
          cases r with
          | true =>
            have HN2 : Hid ((who.take (j + 1)).any (whoP user) = true) := Lib.hid (by rw [HN.out]; rfl)
            clear HN
            go_wp2_with fail
            go_roundw
            case rel => exact ⟨j + 1, by omega, by go_num, by rw [HN2.out], HJ⟩
            case measure => simp [intOf]; omega
          | false =>
            by_cases h1 : p = [42]
            · subst h1
              have HN2 : Hid ((who.take (j + 1)).any (whoP user) = true) := Lib.hid (by rw [HN.out]; unfold whoP; simp)
              clear HN
              go_wp2_with fail
              go_roundw
              case rel => exact ⟨j + 1, by omega, by go_num, by rw [HN2.out], HJ⟩
              case measure => simp [intOf]; omega
            · have g1' : (p == [42]) = false := by simpa using h1
              by_cases h2 : user = []
              · subst h2
                have HN2 : Hid ((who.take (j + 1)).any (whoP []) = false) := Lib.hid (by rw [HN.out]; unfold whoP; rw [g1']; rfl)
                clear HN h1
                go_wp2_with fail
                go_roundw
                case rel => exact ⟨j + 1, by omega, by go_num, by rw [HN2.out], HJ⟩
                case measure => simp [intOf]; omega
              · have g2 : user.isEmpty = false := by simpa using h2
                obtain ⟨q, hq⟩ : ∃ q, (p == user) = q := ⟨_, rfl⟩
                have HN2 : Hid ((who.take (j + 1)).any (whoP user) = q) := Lib.hid (by rw [HN.out]; unfold whoP; rw [g1', g2, hq]; rfl)
                clear HN h1 h2
                go_wp2_with fail
                go_roundw
                case rel => exact ⟨j + 1, by omega, by go_num, by rw [HN2.out], HJ⟩
                case measure => simp [intOf]; omega
        · have hdj : decide (j < who.length) = false := by simpa using hjl
          have hwj : (who.take j).any (whoP user) = whoM who user := by rw [List.take_of_length_le (by omega)]; rfl
          rw [hwj]
          obtain ⟨r1, h1⟩ : ∃ r, whoM who user = r := ⟨_, rfl⟩
          obtain ⟨r2, h2⟩ : ∃ r, anyM acts action = r := ⟨_, rfl⟩
          obtain ⟨r3, h3⟩ : ∃ r, anyM ress resource = r := ⟨_, rfl⟩
          rw [h1]
          rw [h2] at HC2
          rw [h3] at HC3
          rw [h1, h2, h3] at HE
          clear h1 h2 h3 hwj y0 y3
          go_upto_region 11 with (fail)
          clear y1
          go_wp2_with fail
          refine (HC2.out _ HJ.out).mono ?_
          rintro e w3 ⟨rfl, hq3⟩
          have HQ3 := Lib.hid (HJ.out.trans hq3)
          have y3 := (HX.out w3 HQ3.out).2.2.2
          clear hq3 y2
          go_wp2_with fail
          refine (HC3.out _ HQ3.out).mono ?_
          rintro e w4 ⟨rfl, hq4⟩
          have HQ4 := Lib.hid (HQ3.out.trans hq4)
          have y0 := (HX.out w4 HQ4.out).1
          clear hq4 y3
          rcases r1 with _ | _ <;> rcases r2 with _ | _ <;> rcases r3 with _ | _
          case' true.true.true =>
            cases al with
            | true =>
              have HN : Hid (max 1 (decideL (l.drop (k + 1)) user action resource) = R) := Lib.hid (by have := HE.out; simp at this; omega)
              clear HE
              go_wp2_with fail
              go_roundw
              case rel => exact ⟨k + 1, 1, by omega, by omega, rfl, by go_num, Lib.hid ⟨HQ4.out, HN.out⟩⟩
              case measure => simp [intOf]; omega
            | false =>
              have HN : Hid (R = 2) := Lib.hid (by have := HE.out; simp at this; omega)
              clear HE
              go_wp2_with fail
              go_ret
              rw [HN.out]
              exact ⟨rfl, HQ4.out⟩
          all_goals
            have HN : Hid (max O (decideL (l.drop (k + 1)) user action resource) = R) := Lib.hid (by have := HE.out; simpa using this)
            clear HE y0
            go_wp2_with fail
            go_roundw
            case rel => exact ⟨k + 1, O, by omega, hO, rfl, by go_num, Lib.hid ⟨HQ4.out, HN.out⟩⟩
            case measure => simp [intOf]; omega
    · have hd : decide (k < l.length) = false := by simpa using hlt
      have HX : Hid (R = O) := Lib.hid (by
        have := HI.out.2
        rw [List.drop_of_length_le (by omega)] at this
        simp [decideL] at this; omega)
      have HQ := Lib.hid HI.out.1
      clear HI
      go_wp2_with fail
      go_ret
      rw [HX.out]
      exact ⟨rfl, HQ.out⟩
end Go.Proofs.YtlhhiiemojhjdaaDoor
/- Law 18: PolicyDecides. -/
set_option linter.unusedVariables false
set_option linter.unusedSimpArgs false
namespace Go.Proofs.YtlhhiiemojhjdaaDoor
open Go Go.RowKit
set_option maxRecDepth 100000 in
set_option maxHeartbeats 8000000 in
theorem PolicyDecides_walk (l : List StmtD) (user action resource : Txt) (v : Value) (w : World) (hu : UT w) (hv : StsV w v l) (hs : ∀ i, i < l.length → ShS (gSt l i)) (ha : action.length ≤ 1000000000) (hr : resource.length ≤ 1000000000) :
    Calls Tryd.prog 6 #[v, .string ⟨user.toArray⟩, .string ⟨action.toArray⟩, .string ⟨resource.toArray⟩] w fun e w' => e = .returned (.bool true) ∧ Q w w' := by
  have HEx := Lib.hid (examples18 w hu)
  have HV := Lib.hid hv
  obtain ⟨A, c, rfl, hc1, hc2, hc3⟩ := hv
  have HC := Lib.hid hc3
  have HS := Lib.hid hs
  have HA := Lib.hid ha
  have HRs := Lib.hid hr
  have hll : l.length ≤ 9223372036854775807 := by omega
  obtain ⟨D, hD⟩ : ∃ D : Int, ((decideL l user action resource : Nat) : Int) = D := ⟨_, rfl⟩
  have HD1 : Hid (∀ W, Q w W → Calls Tryd.prog 13 #[.slice A l.length c, .string ⟨user.toArray⟩, .string ⟨action.toArray⟩, .string ⟨resource.toArray⟩] W fun e w' => e = .returned (.int .i64 D) ∧ Q W w') := Lib.hid (fun W hq => by
    have := Decide_any l user action resource _ W (HV.out.q hq) hs (by omega) (by omega); rw [hD] at this; exact this)
  have HD2 : Hid (∀ W, Q w W → Calls Tryd.prog 18 #[.slice A l.length c, .string ⟨user.toArray⟩, .string ⟨action.toArray⟩, .string ⟨resource.toArray⟩] W fun e w' => e = .returned (.int .i64 D) ∧ Q W w') := Lib.hid (fun W hq => by
    have := RDecide_any l user action resource _ W (HV.out.q hq) hs (by omega) (by omega); rw [hD] at this; exact this)
  clear hc3 hs ha hr hc1 hc2 hu hD
  go_enter Tryd.func6, Tryd.ntmps6
  go_wp2_with fail
  refine HEx.out.mono ?_
  rintro e w1 ⟨rfl, hq1⟩
  have HQ1 := Lib.hid hq1
  clear HEx hq1
  go_wp2_with fail
  go_loopw [10] (fun i wx => ∃ k : Nat, k ≤ l.length ∧ i = .int .i64 (k : Int) ∧ Hid (Q w wx)) (fun i _ => l.length - (intOf i).toNat)
  case atStart => exact ⟨0, by omega, rfl, HQ1⟩
  case round =>
    obtain ⟨k, hk, rfl, HI⟩ := hrel
    rename World => wa
    by_cases hlt : k < l.length
    · have hd : decide (k < l.length) = true := by simpa using hlt
      obtain ⟨g, off, va, vb, vc, rfl, hst, x0, x1, x2, x3⟩ := HC.out k hlt
      have hsh := (HS.out k hlt).1
      obtain ⟨s, hse⟩ : ∃ s, gSt l k = s := ⟨_, rfl⟩
      rw [hse] at hst hsh
      obtain ⟨al, who, acts, ress⟩ := s
      obtain ⟨-, hvb, hvc⟩ := hst
      simp only at hvb hvc hsh
      obtain ⟨A2, c2, e2, ha1, ha2, hac⟩ := hvb.at
      subst e2
      obtain ⟨A3, c3, rfl⟩ := hvc.slice
      have HAc := Lib.hid hac
      have HSh := Lib.hid hsh
      have HX : Hid (∀ W, Q w W → W.cell? ⟨g, off + k * 4 + 2, none⟩ = some (.slice A2 acts.length c2) ∧ W.cell? ⟨g, off + k * 4 + 3, none⟩ = some (.slice A3 ress.length c3)) := Lib.hid (fun W hq => ⟨hq.cell x2, hq.cell x3⟩)
      have hal : acts.length ≤ 9223372036854775807 := by omega
      obtain ⟨y2, y3⟩ := HX.out wa HI.out
      clear hvb hvc hac hse hsh x0 x1 x2 x3 ha1 ha2
      by_cases h20 : 20 < acts.length
      · have g1 : decide ((20 : Int) < (acts.length : Int)) = true := by simp; omega
        have g2 : decide (20 < acts.length) = true := by simpa using h20
        clear h20
        go_wp2_with fail
        go_ret
        exact ⟨rfl, HI.out⟩
      have g1 : decide ((20 : Int) < (acts.length : Int)) = false := by simp; omega
      have g2 : decide (20 < acts.length) = false := by simpa using h20
      by_cases h30 : 20 < ress.length
      · have g3 : decide ((20 : Int) < (ress.length : Int)) = true := by simp; omega
        have g4 : decide (20 < ress.length) = true := by simpa using h30
        clear h20 h30
        go_wp2_with fail
        go_ret
        exact ⟨rfl, HI.out⟩
      have g3 : decide ((20 : Int) < (ress.length : Int)) = false := by simp; omega
      have g4 : decide (20 < ress.length) = false := by simpa using h30
      clear h20 h30
      go_upto_region 7 with (fail)
      clear y2 y3 g1 g2 g3 g4
      go_wp2_with fail
      go_loopw [11] (fun i wx => ∃ j : Nat, j ≤ acts.length ∧ i = .int .i64 (j : Int) ∧ Hid (Q w wx)) (fun i _ => acts.length - (intOf i).toNat)
      case atStart => exact ⟨0, by omega, rfl, HI⟩
      case round =>
        obtain ⟨j, hj, rfl, HJ⟩ := hrel
        rename World => wb
        obtain ⟨y2, -⟩ := HX.out wb HJ.out
        by_cases hjl : j < acts.length
        · have hdj : decide (j < acts.length) = true := by simpa using hjl
          obtain ⟨g1, off1, rfl, z0⟩ := HAc.out j hjl
          replace z0 := HJ.out.cell z0
          have hp1 := HSh.out j hjl
          obtain ⟨p, hp⟩ : ∃ p, gL acts j = p := ⟨_, rfl⟩
          rw [hp] at z0 hp1
          obtain ⟨r, hr⟩ : ∃ r, matL p resource = r := ⟨_, rfl⟩
          have HM1 : Hid (∀ W, Calls Tryd.prog 17 #[.string ⟨p.toArray⟩, .string ⟨resource.toArray⟩] W fun e w' => e = .returned (.bool r) ∧ Q W w') := Lib.hid (fun W => by
            have := RMatch_any p resource W hp1 HRs.out; rw [hr] at this; exact this)
          have HM2 : Hid (∀ W, Calls Tryd.prog 14 #[.string ⟨p.toArray⟩, .string ⟨resource.toArray⟩] W fun e w' => e = .returned (.bool r) ∧ Q W w') := Lib.hid (fun W => by
            have := Match_any p resource W hp1 (by have := HRs.out; omega); rw [hr] at this; exact this)
          clear hp hr hp1
          go_wp2_with fail
          refine (HM1.out _).mono ?_
          rintro e w3 ⟨rfl, hq3⟩
          have HQ3 := Lib.hid (HJ.out.trans hq3)
          clear hq3 y2 z0
          go_wp2_with fail
          refine (HM2.out _).mono ?_
          rintro e w4 ⟨rfl, hq4⟩
          have HQ4 := Lib.hid (HQ3.out.trans hq4)
          have hrr : (r != r) = false := by simp
          clear hq4
          go_wp2_with fail
          go_roundw
          case rel => exact ⟨j + 1, by omega, by go_num, HQ4⟩
          case measure => simp [intOf]; omega
        · have hdj : decide (j < acts.length) = false := by simpa using hjl
          go_wp2_with fail
          go_roundw
          case rel => exact ⟨k + 1, by omega, by go_num, HJ⟩
          case measure => simp [intOf]; omega
    · have hd : decide (k < l.length) = false := by simpa using hlt
      go_wp2_with fail
      refine (HD1.out _ HI.out).mono ?_
      rintro e w3 ⟨rfl, hq3⟩
      have HQ3 := Lib.hid (HI.out.trans hq3)
      clear hq3
      go_wp2_with fail
      refine (HD2.out _ HQ3.out).mono ?_
      rintro e w4 ⟨rfl, hq4⟩
      have HQ4 := Lib.hid (HQ3.out.trans hq4)
      have hdd : (D == D) = true := by simp
      clear hq4
      go_wp2_with fail
      go_ret
      exact ⟨rfl, HQ4.out⟩
theorem PolicyDecides_any (l : List StmtD) (user action resource : Txt) (w : World) (v : Value) (hv : StsV w v l) (hu : UT w) (_hl : l.length ≤ 1048576) (hb : ∀ i, i < l.length → BigS 1048576 (gSt l i)) (_h1 : user.length ≤ 1048576) (h2 : action.length ≤ 1048576) (h3 : resource.length ≤ 1048576) :
    Calls Tryd.prog 6 #[v, .string ⟨user.toArray⟩, .string ⟨action.toArray⟩, .string ⟨resource.toArray⟩] w fun e w' => e = .returned (.bool true) ∧ Q w w' :=
  PolicyDecides_walk l user action resource v w hu hv (fun i hi => (hb i hi).sh (by decide)) (by omega) (by omega)
end Go.Proofs.YtlhhiiemojhjdaaDoor
