/- Texts of this proof, laid into one: PoO, KeE, PoP, PoQ, ShapedJ. -/
import Derived.Test.YtlhhiiemojhjdaaDoorMp21
import Derived.Test.YtlhhiiemojhjdaaDoorRows
import Derived.SizedLaws
import Derived.Deep.Slices
import Derived.HandedShaped
import Derived.SevenTiedAt
/- Law 18: PolicyMatches. -/
set_option linter.unusedVariables false
set_option linter.unusedSimpArgs false
namespace Go.Proofs.YtlhhiiemojhjdaaDoor
open Go Go.RowKit
def sgnB (b : UInt8) : Bool := b == 42 || b == 63
theorem sgn_plain {p : Txt} (h : p.any sgnB = false) (s : Txt) : matL p s = (p == s) := by
  have hp : ∀ b ∈ p, b ≠ 42 ∧ b ≠ 63 := fun b hb => by
    rw [List.any_eq_false] at h
    have := h b hb
    unfold sgnB at this
    simp only [Bool.or_eq_true, beq_iff_eq, not_or] at this
    exact this
  have := mat_plain p s hp
  cases hm : matL p s with
  | true => rw [this.1 hm]; simp
  | false =>
    have : p ≠ s := fun e => by rw [this.2 e] at hm; cases hm
    simpa using this
theorem mat_both {p q s t : Txt} (h1 : matL p s = true) (h2 : matL q t = true) : matL (p ++ q) (s ++ t) = true := by
  rw [mat_app]
  exact ⟨s.length, by simp, by rw [List.take_left' rfl]; exact h1, by rw [List.drop_left' rfl]; exact h2⟩
theorem mat_quest (s : Txt) : matL [63] s = decide (s.length = 1) := by
  have h := mat_one (p := 63) (by decide) s
  cases hm : matL [63] s with
  | true =>
    obtain ⟨c, rfl, _⟩ := h.1 hm
    rfl
  | false =>
    have : ¬ s.length = 1 := fun e => by
      obtain ⟨c, rfl⟩ := List.length_eq_one_iff.1 e
      rw [h.2 ⟨c, rfl, rfl⟩] at hm; cases hm
    simp [this]
theorem sgn_take (p : Txt) (k : Nat) (h : k < p.length) : (p.take (k + 1)).any sgnB = ((p.take k).any sgnB || sgnB (gB p k)) := by
  rw [List.take_succ_eq_append_getElem h, List.any_append]
  have : gB p k = p[k] := by simp [gB, List.getD, h]
  rw [this]; simp
set_option maxRecDepth 100000 in
set_option maxHeartbeats 4000000 in
theorem PolicyMatches_any (p q s t : Txt) (w : World) (hu : UT w) (hp : p.length ≤ 10000000) (hq : q.length ≤ 10000000) (hs : s.length ≤ 10000000) (ht : t.length ≤ 10000000) :
    Calls Tryd.prog 4 #[.string ⟨p.toArray⟩, .string ⟨q.toArray⟩, .string ⟨s.toArray⟩, .string ⟨t.toArray⟩] w fun e w' => e = .returned (.bool true) ∧ Q w w' := by
  have HEx := Lib.hid (examples18 w hu)
  obtain ⟨m1, hm1⟩ : ∃ m, matL p s = m := ⟨_, rfl⟩
  obtain ⟨m2, hm2⟩ : ∃ m, matL q t = m := ⟨_, rfl⟩
  obtain ⟨m6, hm6⟩ : ∃ m, decide (s.length = 1) = m := ⟨_, rfl⟩
  obtain ⟨sg, hsg⟩ : ∃ m, p.any sgnB = m := ⟨_, rfl⟩
  have HA : Hid (∀ W, Calls Tryd.prog 14 #[.string ⟨p.toArray⟩, .string ⟨s.toArray⟩] W fun e w' => e = .returned (.bool m1) ∧ Q W w') := Lib.hid (fun W => by
    have := Match_any p s W (by omega) (by omega); rw [hm1] at this; exact this)
  have HB : Hid (∀ W, Calls Tryd.prog 14 #[.string ⟨q.toArray⟩, .string ⟨t.toArray⟩] W fun e w' => e = .returned (.bool m2) ∧ Q W w') := Lib.hid (fun W => by
    have := Match_any q t W (by omega) (by omega); rw [hm2] at this; exact this)
  have HC : Hid (m1 = true → m2 = true → ∀ W, Calls Tryd.prog 14 #[.string ⟨(p ++ q).toArray⟩, .string ⟨(s ++ t).toArray⟩] W fun e w' => e = .returned (.bool true) ∧ Q W w') := Lib.hid (fun h1 h2 W => by
    have := Match_any (p ++ q) (s ++ t) W (by simp; omega) (by simp; omega); rw [mat_both (by rw [hm1, h1]) (by rw [hm2, h2])] at this; exact this)
  have HD : Hid (∀ W, Calls Tryd.prog 14 #[.string ⟨#[42]⟩, .string ⟨s.toArray⟩] W fun e w' => e = .returned (.bool true) ∧ Q W w') := Lib.hid (fun W => by
    have := Match_any [42] s W (by decide) (by omega); rw [mat_one_star] at this; exact this)
  have HE : Hid (m1 = true → ∀ W, Calls Tryd.prog 14 #[.string ⟨(p ++ [42]).toArray⟩, .string ⟨(s ++ t).toArray⟩] W fun e w' => e = .returned (.bool true) ∧ Q W w') := Lib.hid (fun h1 W => by
    have := Match_any (p ++ [42]) (s ++ t) W (by simp; omega) (by simp; omega); rw [mat_both (by rw [hm1, h1]) (mat_one_star t)] at this; exact this)
  have HF : Hid (∀ W, Calls Tryd.prog 14 #[.string ⟨#[63]⟩, .string ⟨s.toArray⟩] W fun e w' => e = .returned (.bool m6) ∧ Q W w') := Lib.hid (fun W => by
    have := Match_any [63] s W (by decide) (by omega); rw [mat_quest, hm6] at this; exact this)
  have HPl : Hid (sg = false → (p == s) = m1) := Lib.hid (fun h => by rw [← hm1, sgn_plain (by rw [hsg, h])])
  have HSg := Lib.hid hsg
  have hl6 : ((s.length : Int) == 1) = m6 := by rw [← hm6]; by_cases h : s.length = 1 <;> simp [h] <;> omega
  clear hm1 hm2 hm6 hsg hu
  go_enter Tryd.func4, Tryd.ntmps4
  go_wp2_with fail
  refine HEx.out.mono ?_
  rintro e w1 ⟨rfl, hq1⟩
  have HQ1 := Lib.hid hq1
  clear HEx hq1
  go_wp2_with fail
  go_loopw [10, 11] (fun b i wx => ∃ k : Nat, k ≤ p.length ∧ i = .int .i64 (k : Int) ∧ b = .bool ((p.take k).any sgnB) ∧ Hid (Q w wx)) (fun _ i _ => p.length - (intOf i).toNat)
  case atStart => exact ⟨0, by omega, rfl, rfl, HQ1⟩
  case round =>
    obtain ⟨k, hk, rfl, rfl, HI⟩ := hrel
    rename World => wa
    by_cases hlt : k < p.length
    · have hd : decide (k < p.length) = true := by simpa using hlt
      obtain ⟨v, hv⟩ : ∃ v, gB p k = v := ⟨_, rfl⟩
      have hnx := sgn_take p k hlt
      rw [hv] at hnx
      obtain ⟨r, hr⟩ : ∃ r, (p.take k).any sgnB = r := ⟨_, rfl⟩
      rw [hr] at hnx ⊢
      have HN := Lib.hid hnx
      clear hnx hr
      cases r with
      | true =>
        have HN2 : Hid ((p.take (k + 1)).any sgnB = true) := Lib.hid (by rw [HN.out]; rfl)
        clear HN
        go_wp2_with fail
        go_roundw
        case rel => exact ⟨k + 1, by omega, by go_num, by rw [HN2.out], HI⟩
        case measure => simp [intOf]; omega
      | false =>
        by_cases h42 : v = 42
        · subst h42
          have HN2 : Hid ((p.take (k + 1)).any sgnB = true) := Lib.hid (by rw [HN.out]; rfl)
          clear HN
          go_wp2_with fail
          go_roundw
          case rel => exact ⟨k + 1, by omega, by go_num, by rw [HN2.out], HI⟩
          case measure => simp [intOf]; omega
        · have h42i : ¬ (v.toNat : Int) = 42 := fun h => h42 (UInt8.toNat_inj.1 (by simpa using (by omega : v.toNat = 42)))
          have g42 : (((v.toNat : Int)) == 42) = false := by simpa using h42i
          by_cases h63 : v = 63
          · subst h63
            have HN2 : Hid ((p.take (k + 1)).any sgnB = true) := Lib.hid (by rw [HN.out]; rfl)
            clear HN h42 h42i g42
            go_wp2_with fail
            go_roundw
            case rel => exact ⟨k + 1, by omega, by go_num, by rw [HN2.out], HI⟩
            case measure => simp [intOf]; omega
          · have h63i : ¬ (v.toNat : Int) = 63 := fun h => h63 (UInt8.toNat_inj.1 (by simpa using (by omega : v.toNat = 63)))
            have g63 : (((v.toNat : Int)) == 63) = false := by simpa using h63i
            have HN2 : Hid ((p.take (k + 1)).any sgnB = false) := Lib.hid (by rw [HN.out]; unfold sgnB; simp [h42, h63])
            clear HN h42 h63
            go_wp2_with fail
            go_roundw
            case rel => exact ⟨k + 1, by omega, by go_num, by rw [HN2.out], HI⟩
            case measure => simp [intOf]; omega
    · have hd : decide (k < p.length) = false := by simpa using hlt
      have hks : (p.take k).any sgnB = sg := by rw [List.take_of_length_le (by omega)]; exact HSg.out
      rw [hks]
      clear hks HSg

      rcases sg with _ | _ <;> rcases m1 with _ | _ <;> rcases m2 with _ | _
      · have hpl : (p == s) = false := HPl.out rfl
        go_wp2_with fail
        refine (HA.out _).mono ?_
        rintro e x1 ⟨rfl, hx1⟩
        have HX1 := Lib.hid (HI.out.trans hx1)
        clear hx1
        go_wp2_with fail
        refine (HA.out _).mono ?_
        rintro e x2 ⟨rfl, hx2⟩
        have HX2 := Lib.hid (HX1.out.trans hx2)
        clear hx2
        go_wp2_with fail
        refine (HD.out _).mono ?_
        rintro e x3 ⟨rfl, hx3⟩
        have HX3 := Lib.hid (HX2.out.trans hx3)
        clear hx3
        go_wp2_with fail
        refine (HA.out _).mono ?_
        rintro e x4 ⟨rfl, hx4⟩
        have HX4 := Lib.hid (HX3.out.trans hx4)
        clear hx4
        go_wp2_with fail
        refine (HF.out _).mono ?_
        rintro e x5 ⟨rfl, hx5⟩
        have HX5 := Lib.hid (HX4.out.trans hx5)
        clear hx5
        go_wp2_with fail
        go_ret
        exact ⟨rfl, HX5.out⟩
      · have hpl : (p == s) = false := HPl.out rfl
        go_wp2_with fail
        refine (HA.out _).mono ?_
        rintro e x1 ⟨rfl, hx1⟩
        have HX1 := Lib.hid (HI.out.trans hx1)
        clear hx1
        go_wp2_with fail
        refine (HA.out _).mono ?_
        rintro e x2 ⟨rfl, hx2⟩
        have HX2 := Lib.hid (HX1.out.trans hx2)
        clear hx2
        go_wp2_with fail
        refine (HD.out _).mono ?_
        rintro e x3 ⟨rfl, hx3⟩
        have HX3 := Lib.hid (HX2.out.trans hx3)
        clear hx3
        go_wp2_with fail
        refine (HA.out _).mono ?_
        rintro e x4 ⟨rfl, hx4⟩
        have HX4 := Lib.hid (HX3.out.trans hx4)
        clear hx4
        go_wp2_with fail
        refine (HF.out _).mono ?_
        rintro e x5 ⟨rfl, hx5⟩
        have HX5 := Lib.hid (HX4.out.trans hx5)
        clear hx5
        go_wp2_with fail
        go_ret
        exact ⟨rfl, HX5.out⟩
      · have hpl : (p == s) = true := HPl.out rfl
        go_wp2_with fail
        refine (HA.out _).mono ?_
        rintro e x1 ⟨rfl, hx1⟩
        have HX1 := Lib.hid (HI.out.trans hx1)
        clear hx1
        go_wp2_with fail
        refine (HA.out _).mono ?_
        rintro e x2 ⟨rfl, hx2⟩
        have HX2 := Lib.hid (HX1.out.trans hx2)
        clear hx2
        go_wp2_with fail
        refine (HB.out _).mono ?_
        rintro e x3 ⟨rfl, hx3⟩
        have HX3 := Lib.hid (HX2.out.trans hx3)
        clear hx3
        go_wp2_with fail
        refine (HD.out _).mono ?_
        rintro e x4 ⟨rfl, hx4⟩
        have HX4 := Lib.hid (HX3.out.trans hx4)
        clear hx4
        go_wp2_with fail
        refine (HA.out _).mono ?_
        rintro e x5 ⟨rfl, hx5⟩
        have HX5 := Lib.hid (HX4.out.trans hx5)
        clear hx5
        go_wp2_with fail
        refine (HE.out (by simp) _).mono ?_
        rintro e x6 ⟨rfl, hx6⟩
        have HX6 := Lib.hid (HX5.out.trans hx6)
        clear hx6
        go_wp2_with fail
        refine (HF.out _).mono ?_
        rintro e x7 ⟨rfl, hx7⟩
        have HX7 := Lib.hid (HX6.out.trans hx7)
        clear hx7
        go_wp2_with fail
        go_ret
        exact ⟨rfl, HX7.out⟩
      · have hpl : (p == s) = true := HPl.out rfl
        go_wp2_with fail
        refine (HA.out _).mono ?_
        rintro e x1 ⟨rfl, hx1⟩
        have HX1 := Lib.hid (HI.out.trans hx1)
        clear hx1
        go_wp2_with fail
        refine (HA.out _).mono ?_
        rintro e x2 ⟨rfl, hx2⟩
        have HX2 := Lib.hid (HX1.out.trans hx2)
        clear hx2
        go_wp2_with fail
        refine (HB.out _).mono ?_
        rintro e x3 ⟨rfl, hx3⟩
        have HX3 := Lib.hid (HX2.out.trans hx3)
        clear hx3
        go_wp2_with fail
        refine (HC.out (by simp) (by simp) _).mono ?_
        rintro e x4 ⟨rfl, hx4⟩
        have HX4 := Lib.hid (HX3.out.trans hx4)
        clear hx4
        go_wp2_with fail
        refine (HD.out _).mono ?_
        rintro e x5 ⟨rfl, hx5⟩
        have HX5 := Lib.hid (HX4.out.trans hx5)
        clear hx5
        go_wp2_with fail
        refine (HA.out _).mono ?_
        rintro e x6 ⟨rfl, hx6⟩
        have HX6 := Lib.hid (HX5.out.trans hx6)
        clear hx6
        go_wp2_with fail
        refine (HE.out (by simp) _).mono ?_
        rintro e x7 ⟨rfl, hx7⟩
        have HX7 := Lib.hid (HX6.out.trans hx7)
        clear hx7
        go_wp2_with fail
        refine (HF.out _).mono ?_
        rintro e x8 ⟨rfl, hx8⟩
        have HX8 := Lib.hid (HX7.out.trans hx8)
        clear hx8
        go_wp2_with fail
        go_ret
        exact ⟨rfl, HX8.out⟩
      · clear HPl
        go_wp2_with fail
        refine (HA.out _).mono ?_
        rintro e x1 ⟨rfl, hx1⟩
        have HX1 := Lib.hid (HI.out.trans hx1)
        clear hx1
        go_wp2_with fail
        refine (HD.out _).mono ?_
        rintro e x2 ⟨rfl, hx2⟩
        have HX2 := Lib.hid (HX1.out.trans hx2)
        clear hx2
        go_wp2_with fail
        refine (HA.out _).mono ?_
        rintro e x3 ⟨rfl, hx3⟩
        have HX3 := Lib.hid (HX2.out.trans hx3)
        clear hx3
        go_wp2_with fail
        refine (HF.out _).mono ?_
        rintro e x4 ⟨rfl, hx4⟩
        have HX4 := Lib.hid (HX3.out.trans hx4)
        clear hx4
        go_wp2_with fail
        go_ret
        exact ⟨rfl, HX4.out⟩
      · clear HPl
        go_wp2_with fail
        refine (HA.out _).mono ?_
        rintro e x1 ⟨rfl, hx1⟩
        have HX1 := Lib.hid (HI.out.trans hx1)
        clear hx1
        go_wp2_with fail
        refine (HD.out _).mono ?_
        rintro e x2 ⟨rfl, hx2⟩
        have HX2 := Lib.hid (HX1.out.trans hx2)
        clear hx2
        go_wp2_with fail
        refine (HA.out _).mono ?_
        rintro e x3 ⟨rfl, hx3⟩
        have HX3 := Lib.hid (HX2.out.trans hx3)
        clear hx3
        go_wp2_with fail
        refine (HF.out _).mono ?_
        rintro e x4 ⟨rfl, hx4⟩
        have HX4 := Lib.hid (HX3.out.trans hx4)
        clear hx4
        go_wp2_with fail
        go_ret
        exact ⟨rfl, HX4.out⟩
      · clear HPl
        go_wp2_with fail
        refine (HA.out _).mono ?_
        rintro e x1 ⟨rfl, hx1⟩
        have HX1 := Lib.hid (HI.out.trans hx1)
        clear hx1
        go_wp2_with fail
        refine (HB.out _).mono ?_
        rintro e x2 ⟨rfl, hx2⟩
        have HX2 := Lib.hid (HX1.out.trans hx2)
        clear hx2
        go_wp2_with fail
        refine (HD.out _).mono ?_
        rintro e x3 ⟨rfl, hx3⟩
        have HX3 := Lib.hid (HX2.out.trans hx3)
        clear hx3
        go_wp2_with fail
        refine (HA.out _).mono ?_
        rintro e x4 ⟨rfl, hx4⟩
        have HX4 := Lib.hid (HX3.out.trans hx4)
        clear hx4
        go_wp2_with fail
        refine (HE.out (by simp) _).mono ?_
        rintro e x5 ⟨rfl, hx5⟩
        have HX5 := Lib.hid (HX4.out.trans hx5)
        clear hx5
        go_wp2_with fail
        refine (HF.out _).mono ?_
        rintro e x6 ⟨rfl, hx6⟩
        have HX6 := Lib.hid (HX5.out.trans hx6)
        clear hx6
        go_wp2_with fail
        go_ret
        exact ⟨rfl, HX6.out⟩
      · clear HPl
        go_wp2_with fail
        refine (HA.out _).mono ?_
        rintro e x1 ⟨rfl, hx1⟩
        have HX1 := Lib.hid (HI.out.trans hx1)
        clear hx1
        go_wp2_with fail
        refine (HB.out _).mono ?_
        rintro e x2 ⟨rfl, hx2⟩
        have HX2 := Lib.hid (HX1.out.trans hx2)
        clear hx2
        go_wp2_with fail
        refine (HC.out (by simp) (by simp) _).mono ?_
        rintro e x3 ⟨rfl, hx3⟩
        have HX3 := Lib.hid (HX2.out.trans hx3)
        clear hx3
        go_wp2_with fail
        refine (HD.out _).mono ?_
        rintro e x4 ⟨rfl, hx4⟩
        have HX4 := Lib.hid (HX3.out.trans hx4)
        clear hx4
        go_wp2_with fail
        refine (HA.out _).mono ?_
        rintro e x5 ⟨rfl, hx5⟩
        have HX5 := Lib.hid (HX4.out.trans hx5)
        clear hx5
        go_wp2_with fail
        refine (HE.out (by simp) _).mono ?_
        rintro e x6 ⟨rfl, hx6⟩
        have HX6 := Lib.hid (HX5.out.trans hx6)
        clear hx6
        go_wp2_with fail
        refine (HF.out _).mono ?_
        rintro e x7 ⟨rfl, hx7⟩
        have HX7 := Lib.hid (HX6.out.trans hx7)
        clear hx7
        go_wp2_with fail
        go_ret
        exact ⟨rfl, HX7.out⟩
end Go.Proofs.YtlhhiiemojhjdaaDoor
/- A value that came in, opened. -/
set_option linter.unusedVariables false
namespace Go.Proofs.YtlhhiiemojhjdaaDoor
open Go Go.RowKit Go.ChangeShapes Go.WideShapes Go.Deep
theorem list4 {α : Type} {l : List α} (h : l.length = 4) : ∃ a b c d, l = [a, b, c, d] := by
  match l, h with
  | [a, b, c, d], _ => exact ⟨a, b, c, d, rfl⟩
theorem strB (s : ByteArray) : Value.string s = .string ⟨s.data.toList.toArray⟩ := by cases s; rfl
theorem spot_none {W : World} {a : Addr} {v : Value} (h : W.cell? a = some v) : a.spot = none := by
  obtain ⟨g, off, spot⟩ := a
  unfold World.cell? at h
  simp only at h
  split at h
  · cases spot with
    | none => rfl
    | some s => simp at h
  · cases h
theorem add_of {g off : Nat} (n : Nat) : (⟨g, off, none⟩ : Addr).add n = ⟨g, off + n, none⟩ := add_off g off n
section
variable {H : Type} {enc : TypeId × Value → H} {W : World} {hd : Bool}
theorem bulkAll {d : DataW H} {l : List (DataW H)} (h : d ∈ l) : Rows.uptoBulk d ≤ Rows.uptoBulkAll l := by
  induction l with
  | nil => cases h
  | cons a r ih =>
    simp only [Rows.uptoBulkAll]
    rcases List.mem_cons.1 h with h | h
    · subst h; omega
    · have := ih h; omega
theorem str_in {fuel : Nat} {c : Value} {y : DataW H × List MemPlace} (h : DataW.trod enc Tryd.prog W 0 (fun _ => true) hd fuel 9 [c] = some y) : ∃ s : Txt, c = .string ⟨s.toArray⟩ ∧ y.1 = .lit (.string s) := by
  obtain ⟨s, e, e2, _⟩ := DataW.trod_string Tryd.underlying9 h
  have e' : c = .string s := by simpa using e
  exact ⟨s.data.toList, e'.trans (strB s), by rw [e2]⟩
theorem str_bulk (s : Txt) : Rows.uptoBulk (DataW.lit (H := H) (.string s)) = s.length + 1 := by simp [Rows.uptoBulk]
theorem names_in {fuel : Nat} {c : Value} {y : DataW H × List MemPlace} (h : DataW.trod enc Tryd.prog W 0 (fun _ => true) hd fuel 23 [c] = some y) :
    ∃ ns : List Txt, NsV W c ns ∧ ∀ n ∈ ns, n.length ≤ Rows.uptoBulk y.1 := by
  have hc : Tryd.prog.cellsOf 9 = 1 := by kernel_rfl
  rcases open_slice Tryd.underlying23 h with ⟨hcs, hx⟩ | ⟨a, len, cap, m, n, D, Pl, hcs, _, hl, hm, hmm, rfl, hcell⟩
  · simp at hcs
    subst hcs
    exact ⟨[], ⟨none, 0, rfl, by simp, by omega, fun h => absurd h (by simp)⟩, fun n hn => by cases hn⟩
  · simp at hcs
    subst hcs
    simp only [if_true] at hmm
    subst hmm
    rw [hc] at hcell
    obtain ⟨p, hp⟩ := choose_lt (α := Txt) (p := fun i q => W.cell? (a.add i) = some (.string ⟨q.toArray⟩) ∧ D i = .lit (.string q)) (fun i hi => by
      obtain ⟨cs', h1, h2⟩ := hcell i hi
      obtain ⟨_, hlen, hcc⟩ := World.cells?_some h1
      obtain ⟨c, rfl⟩ := List.length_eq_one_iff.1 hlen
      obtain ⟨s, rfl, hs⟩ := str_in h2
      refine ⟨s, ?_, hs⟩
      have := hcc 0 (by omega)
      rw [add_add] at this
      simpa using this)
    refine ⟨(List.range len).map p, ⟨some a, m, by simp, by simp; omega, by unfold maxLen at hm; simpa using hm, fun h0 => ?_⟩, fun q hq => ?_⟩
    · have h0' : 0 < len := by simpa using h0
      have h00 := (hp 0 (by omega)).1
      have ea : a.add 0 = a := by simp [Addr.add]
      rw [ea] at h00
      have hsp := spot_none h00
      obtain ⟨g, off, spot⟩ := a
      simp only at hsp
      subst hsp
      refine ⟨g, off, rfl, fun i hi => ?_⟩
      have hi' : i < len := by simpa using hi
      have h1 := (hp i (by omega)).1
      rw [add_off] at h1
      have e : gL ((List.range len).map p) i = p i := by simp [gL, List.getD, hi']
      rw [e]; exact h1
    · obtain ⟨i, hi, rfl⟩ := List.mem_map.1 hq
      have hi' : i < len := by simpa using hi
      have h1 := bulkAll (H := H) (List.mem_map.2 ⟨i, hi, rfl⟩ : D i ∈ (List.range len).map D)
      rw [(hp i (by omega)).2, str_bulk] at h1
      simp only [Rows.uptoBulk]
      omega
theorem jk_list (j : Nat → JsonD) (vn vk : Nat → Value) : ∀ (l : List Nat), (∀ i ∈ l, JV W (j i) (vn i) (vk i)) → JK W (l.map j) (l.flatMap fun i => cellJ (j i) (vn i) (vk i))
  | [], _ => by rw [List.map_nil, List.flatMap_nil, JK]
  | i :: r, h => by
    rw [List.map_cons, List.flatMap_cons, JK]
    exact ⟨_, _, _, rfl, h i (by simp), jk_list j vn vk r (fun k hk => h k (by simp [hk]))⟩
theorem flat4 (f : Nat → List Value) (hf : ∀ i, (f i).length = 4) : ∀ (n i : Nat) (u : Value), ((List.range n).flatMap f)[i]? = some u → i / 4 < n ∧ (f (i / 4))[i % 4]? = some u
  | 0, i, u, h => by simp at h
  | n + 1, i, u, h => by
    have hl : ∀ m, ((List.range m).flatMap f).length = m * 4 := by
      intro m
      induction m with
      | zero => rfl
      | succ m ih => rw [List.range_succ, List.flatMap_append, List.length_append, ih]; simp [hf]; omega
    rw [List.range_succ, List.flatMap_append] at h
    by_cases hi : i < n * 4
    · rw [List.getElem?_append_left (by rw [hl]; exact hi)] at h
      have := flat4 f hf n i u h
      exact ⟨by omega, this.2⟩
    · rw [List.getElem?_append_right (by rw [hl]; omega), hl] at h
      simp only [List.flatMap_cons, List.flatMap_nil, List.append_nil] at h
      have h4 := (List.getElem?_eq_some_iff.1 h).1
      rw [hf] at h4
      have e1 : i / 4 = n := by omega
      have e2 : i % 4 = i - n * 4 := by omega
      rw [e1, e2]
      exact ⟨by omega, h⟩
theorem trod_struct4 {P : Program} {w : World} {base : Nat} {spare : Nat → Bool} {held : Bool} {t : TypeId} {f0 f1 f2 f3 : Field} {fuel : Nat} {cs : List Value} {x : DataW H × List MemPlace} (ht : P.underlying t = some (.struct #[f0, f1, f2, f3])) (h : DataW.trod enc P w base spare held fuel t cs = some x) :
    ∃ y0 y1 y2 y3 n, x.1 = .agg [y0.1, y1.1, y2.1, y3.1] ∧ cs.length = P.cellsOf t ∧ DataW.trod enc P w base spare held n f0.type ((cs.drop f0.offset).take (P.cellsOf f0.type)) = some y0 ∧
      DataW.trod enc P w base spare held n f1.type ((cs.drop f1.offset).take (P.cellsOf f1.type)) = some y1 ∧ DataW.trod enc P w base spare held n f2.type ((cs.drop f2.offset).take (P.cellsOf f2.type)) = some y2 ∧
      DataW.trod enc P w base spare held n f3.type ((cs.drop f3.offset).take (P.cellsOf f3.type)) = some y3 := by
  obtain ⟨xs, n, _, rfl, hl, hlen, hf⟩ := DataW.trod_struct ht h
  obtain ⟨y0, y1, y2, y3, rfl⟩ := list4 (hlen.trans rfl)
  exact ⟨y0, y1, y2, y3, n, by simp, hl, by simpa using hf 0 f0 rfl, by simpa using hf 1 f1 rfl, by simpa using hf 2 f2 rfl, by simpa using hf 3 f3 rfl⟩
theorem json_in : ∀ (N : Nat) (fuel : Nat) (cs : List Value) (y : DataW H × List MemPlace), DataW.trod enc Tryd.prog W 0 (fun _ => true) hd fuel 40 cs = some y → Rows.uptoBulk y.1 ≤ N →
    ∃ j vn vk, cs = cellJ j vn vk ∧ JV W j vn vk ∧ bigJ N j
  | 0, fuel, cs, y, h, hN => by
    obtain ⟨y0, y1, y2, y3, n, hx, _⟩ := trod_struct4 Tryd.underlying40 h
    rw [hx] at hN
    simp [Rows.uptoBulk] at hN
  | N + 1, fuel, cs, y, h, hN => by
    obtain ⟨y0, y1, y2, y3, n, hx, hl, g0, g1, g2, g3⟩ := trod_struct4 Tryd.underlying40 h
    have hc : Tryd.prog.cellsOf 40 = 4 := by kernel_rfl
    have c0 : Tryd.prog.cellsOf 3 = 1 := by kernel_rfl
    have c1 : Tryd.prog.cellsOf 9 = 1 := by kernel_rfl
    have c2 : Tryd.prog.cellsOf 23 = 1 := by kernel_rfl
    have c3 : Tryd.prog.cellsOf 38 = 1 := by kernel_rfl
    rw [hc] at hl
    obtain ⟨v0, v1, v2, v3, rfl⟩ := list4 hl
    simp only [c0, c1, c2, c3, List.drop_zero, List.drop_succ_cons, List.take_succ_cons, List.take_zero] at g0 g1 g2 g3
    rw [hx] at hN
    simp only [Rows.uptoBulk, Rows.uptoBulkAll] at hN
    obtain ⟨t, rfl, x1⟩ := str_in g1
    rw [x1, str_bulk] at hN
    obtain ⟨ns, hns, hnb⟩ := names_in g2
    have hk : ∃ k, v0 = .int .i64 k := by
      obtain ⟨k, e, _⟩ := DataW.trod_int Tryd.underlying3 g0
      exact ⟨k, by simpa using e⟩
    obtain ⟨k, rfl⟩ := hk
    have hkids : ∃ ks, (∃ B c, v3 = .slice B ks.length c ∧ ks.length ≤ c ∧ c ≤ 9223372036854775807 ∧ (0 < ks.length → ∃ g off cells, B = some ⟨g, off, none⟩ ∧ (∀ i u, cells[i]? = some u → W.cell? ⟨g, off + i, none⟩ = some u) ∧ JK W ks cells)) ∧ bigKs N ks := by
      rcases open_slice Tryd.underlying38 g3 with ⟨hcs, hx⟩ | ⟨a, len, cap, m, n', D, Pl, hcs, _, hlc, hm, hmm, hy, hcell⟩
      · simp at hcs
        subst hcs
        exact ⟨[], ⟨none, 0, rfl, by simp, by omega, fun h => absurd h (by simp)⟩, by rw [bigKs]; trivial⟩
      · simp at hcs
        subst hcs
        simp only [if_true] at hmm
        subst hmm
        rw [hc] at hcell
        rw [hy] at hN
        simp only [Rows.uptoBulk] at hN
        obtain ⟨p, hp⟩ := choose_lt (α := JsonD × Value × Value) (p := fun i q => i < len → (∀ k v, (cellJ q.1 q.2.1 q.2.2)[k]? = some v → W.cell? ((a.add (i * 4)).add k) = some v) ∧ JV W q.1 q.2.1 q.2.2 ∧ bigJ N q.1) (fun i (hi : i < m) => by
          by_cases hil : i < len
          · obtain ⟨cs', h1, h2⟩ := hcell i hi
            obtain ⟨_, hlen, hcc⟩ := World.cells?_some h1
            have hbi := bulkAll (H := H) (List.mem_map.2 ⟨i, by simpa using hil, rfl⟩ : D i ∈ (List.range len).map D)
            obtain ⟨j, vn, vk, rfl, hj, hb⟩ := json_in N n' cs' _ h2 (by show Rows.uptoBulk (D i) ≤ N; omega)
            refine ⟨(j, vn, vk), fun _ => ⟨fun k v hk => ?_, hj, hb⟩⟩
            have hk4 : k < 4 := by have := (List.getElem?_eq_some_iff.1 hk).1; exact this
            rw [hcc k hk4]; exact hk
          · exact ⟨(zeroJ, .slice none 0 0, .slice none 0 0), fun h => absurd h hil⟩)
        refine ⟨(List.range len).map (fun i => (p i).1), ⟨some a, m, by simp, by simp; omega, by unfold maxLen at hm; simpa using hm, fun h0 => ?_⟩, ?_⟩
        · have h0' : 0 < len := by simpa using h0
          have h00 := (hp 0 (by omega) h0').1 0 _ rfl
          rw [Nat.zero_mul] at h00
          have ea : (a.add 0).add 0 = a := by simp [Addr.add]
          rw [ea] at h00
          have hsp := spot_none h00
          obtain ⟨g, off, spot⟩ := a
          simp only at hsp
          subst hsp
          refine ⟨g, off, (List.range len).flatMap fun i => cellJ (p i).1 (p i).2.1 (p i).2.2, rfl, fun i u hu => ?_, jk_list (fun i => (p i).1) (fun i => (p i).2.1) (fun i => (p i).2.2) _ (fun i hi => (hp i (by have := List.mem_range.1 hi; omega) (List.mem_range.1 hi)).2.1)⟩
          obtain ⟨h1, h2⟩ := flat4 (fun i => cellJ (p i).1 (p i).2.1 (p i).2.2) (fun i => jsonC_len _ _ _ _) len i u hu
          have h3 := (hp (i / 4) (by omega) h1).1 (i % 4) u h2
          rw [add_off, add_off] at h3
          rw [show off + i = off + i / 4 * 4 + i % 4 by omega]; exact h3
        · rw [bigKs_iff]
          intro j hj
          obtain ⟨i, hi, rfl⟩ := List.mem_map.1 hj
          exact (hp i (by have := List.mem_range.1 hi; omega) (List.mem_range.1 hi)).2.2
    obtain ⟨ks, hks, hkb⟩ := hkids
    refine ⟨.mk k t ns ks, v2, v3, rfl, by rw [JV]; exact ⟨hns, hks⟩, ?_⟩
    rw [bigJ]
    refine ⟨by omega, fun n hn => by have := hnb n hn; omega, ?_⟩
    rw [bigKs_iff] at hkb ⊢
    exact fun j hj => bigJ_mono (by omega) j (hkb j hj)
set_option maxRecDepth 100000 in
/-- A value that is handed in. -/
theorem json_open {N b0 : Nat} {v : Value} {d : DataW H} {q : List MemPlace} (hv : Value.okWide Tryd.prog W .any b0 40 v) (h : DataW.Trod enc Tryd.prog W 0 (fun _ => true) hd 40 v d q) (hB : Rows.uptoBulk d ≤ N) :
    ∃ j vn vk, v = .agg (cellJ j vn vk).toArray ∧ JV W j vn vk ∧ bigJ N j := by
  obtain ⟨cs, rfl, hsz⟩ := okWide_struct Tryd.underlying40 hv
  obtain ⟨fuel, hf⟩ := h
  obtain ⟨j, vn, vk, e, h1, h2⟩ := json_in N fuel _ _ hf hB
  refine ⟨j, vn, vk, ?_, h1, h2⟩
  have e2 : cs = (cellJ j vn vk).toArray := by
    rw [← e]; simp [Value.cells]
  rw [e2]
end
end Go.Proofs.YtlhhiiemojhjdaaDoor
/- Law 18: lists that are alike; PolicyBlanks. -/
set_option linter.unusedVariables false
set_option linter.unusedSimpArgs false
namespace Go.Proofs.YtlhhiiemojhjdaaDoor
open Go Go.RowKit
set_option maxRecDepth 100000 in
theorem same18_any (ns : List Txt) (va vb : Value) (w : World) (ha : NsV w va ns) (hb : NsV w vb ns) : Calls Tryd.prog 38 #[va, vb] w fun e w' => e = .returned (.bool true) ∧ Q w w' := by
  obtain ⟨A, c, rfl, h1, h2, hA⟩ := ha.at
  obtain ⟨B, d, rfl, -, -, hB⟩ := hb.at
  have HA := Lib.hid hA
  have HB := Lib.hid hB
  have hnl : ns.length ≤ 9223372036854775807 := by omega
  clear ha hb hA hB h1 h2
  go_enter Tryd.func38, Tryd.ntmps38
  go_wp2_with fail
  go_loopw [5] (fun i wx => ∃ k : Nat, k ≤ ns.length ∧ i = .int .i64 (k : Int) ∧ Hid (Q w wx)) (fun i _ => ns.length - (intOf i).toNat)
  case atStart => exact ⟨0, by omega, rfl, Lib.hid (Q.refl w)⟩
  case round =>
    obtain ⟨k, hk, rfl, HI⟩ := hrel
    rename World => wa
    by_cases hlt : k < ns.length
    · have hd : decide (k < ns.length) = true := by simpa using hlt
      obtain ⟨g, off, rfl, x0⟩ := HA.out k hlt
      obtain ⟨g2, off2, rfl, x1⟩ := HB.out k hlt
      obtain ⟨t, ht⟩ : ∃ t, gL ns k = t := ⟨_, rfl⟩
      rw [ht] at x0 x1
      have k0 : ∀ m : QW wa, m.val.cell? ⟨g, off + k, none⟩ = some (.string ⟨t.toArray⟩) := fun m => m.cell (HI.out.cell x0)
      have k1 : ∀ m : QW wa, m.val.cell? ⟨g2, off2 + k, none⟩ = some (.string ⟨t.toArray⟩) := fun m => m.cell (HI.out.cell x1)
      have g3 : (t == t) = true := by simp
      clear x0 x1 ht
      go_upto_region 6 with (fail)
      refine wp_region_q (by kernel_rfl) (by kernel_rfl) ?_
      (repeat (go_big_quiet_step (fail)))
      refine wpQuiet_nil ?_
      rintro wb ⟨mb, hmb⟩
      have HQ : Hid (Q w wb) := Lib.hid (HI.out.trans (by rw [hmb]; exact mb.le))
      clear mb hmb k0 k1
      go_wp2_with fail
      go_roundw
      case rel => exact ⟨k + 1, by omega, by go_num, HQ⟩
      case measure => simp [intOf]; omega
    · have hd : decide (k < ns.length) = false := by simpa using hlt
      go_wp2_with fail
      go_ret
      exact ⟨rfl, HI.out⟩
set_option maxRecDepth 100000 in
set_option maxHeartbeats 4000000 in
theorem alike18_any (l : List StmtD) (va vb : Value) (w : World) (ha : StsV w va l) (hb : StsV w vb l) : Calls Tryd.prog 16 #[va, vb] w fun e w' => e = .returned (.bool true) ∧ Q w w' := by
  obtain ⟨A, c, rfl, h1, h2, hA⟩ := ha
  obtain ⟨B, d, rfl, -, -, hB⟩ := hb
  have HA := Lib.hid hA
  have HB := Lib.hid hB
  have hnl : l.length ≤ 9223372036854775807 := by omega
  clear hA hB h1 h2
  go_enter Tryd.func16, Tryd.ntmps16
  go_wp2_with fail
  go_loopw [5] (fun i wx => ∃ k : Nat, k ≤ l.length ∧ i = .int .i64 (k : Int) ∧ Hid (Q w wx)) (fun i _ => l.length - (intOf i).toNat)
  case atStart => exact ⟨0, by omega, rfl, Lib.hid (Q.refl w)⟩
  case round =>
    obtain ⟨k, hk, rfl, HI⟩ := hrel
    rename World => wa
    by_cases hlt : k < l.length
    · have hd : decide (k < l.length) = true := by simpa using hlt
      obtain ⟨g, off, va, vb, vc, rfl, ⟨n1, n2, n3⟩, x0, x1, x2, x3⟩ := HA.out k hlt
      obtain ⟨g2, off2, ua, ub, uc, rfl, ⟨p1, p2, p3⟩, y0, y1, y2, y3⟩ := HB.out k hlt
      obtain ⟨B1, d1, rfl⟩ := n1.slice
      obtain ⟨B2, d2, rfl⟩ := n2.slice
      obtain ⟨B3, d3, rfl⟩ := n3.slice
      obtain ⟨E1, e1, rfl⟩ := p1.slice
      obtain ⟨E2, e2, rfl⟩ := p2.slice
      obtain ⟨E3, e3, rfl⟩ := p3.slice
      obtain ⟨s, hs⟩ : ∃ s, gSt l k = s := ⟨_, rfl⟩
      rw [hs] at n1 n2 n3 p1 p2 p3 x0 x1 x2 x3 y0 y1 y2 y3
      have HS1 : Hid (∀ W, Q w W → Calls Tryd.prog 38 #[.slice B1 s.who.length d1, .slice E1 s.who.length e1] W fun e w' => e = .returned (.bool true) ∧ Q W w') := Lib.hid (fun W hq => same18_any s.who _ _ W (n1.mono (fun _ _ => hq.cell)) (p1.mono (fun _ _ => hq.cell)))
      have HS2 : Hid (∀ W, Q w W → Calls Tryd.prog 38 #[.slice B2 s.acts.length d2, .slice E2 s.acts.length e2] W fun e w' => e = .returned (.bool true) ∧ Q W w') := Lib.hid (fun W hq => same18_any s.acts _ _ W (n2.mono (fun _ _ => hq.cell)) (p2.mono (fun _ _ => hq.cell)))
      have HS3 : Hid (∀ W, Q w W → Calls Tryd.prog 38 #[.slice B3 s.ress.length d3, .slice E3 s.ress.length e3] W fun e w' => e = .returned (.bool true) ∧ Q W w') := Lib.hid (fun W hq => same18_any s.ress _ _ W (n3.mono (fun _ _ => hq.cell)) (p3.mono (fun _ _ => hq.cell)))
      obtain ⟨al, hal⟩ : ∃ al, s.allow = al := ⟨_, rfl⟩
      rw [hal] at x0 y0
      have HX : Hid (∀ W, Q w W → W.cell? ⟨g, off + k * 4, none⟩ = some (.bool al) ∧ W.cell? ⟨g2, off2 + k * 4, none⟩ = some (.bool al)) := Lib.hid (fun W hq => ⟨hq.cell x0, hq.cell y0⟩)
      have HY1 : Hid (∀ W, Q w W → W.cell? ⟨g, off + k * 4 + 1, none⟩ = some (.slice B1 s.who.length d1) ∧ W.cell? ⟨g2, off2 + k * 4 + 1, none⟩ = some (.slice E1 s.who.length e1)) := Lib.hid (fun W hq => ⟨hq.cell x1, hq.cell y1⟩)
      have HY2 : Hid (∀ W, Q w W → W.cell? ⟨g, off + k * 4 + 2, none⟩ = some (.slice B2 s.acts.length d2) ∧ W.cell? ⟨g2, off2 + k * 4 + 2, none⟩ = some (.slice E2 s.acts.length e2)) := Lib.hid (fun W hq => ⟨hq.cell x2, hq.cell y2⟩)
      have HY3 : Hid (∀ W, Q w W → W.cell? ⟨g, off + k * 4 + 3, none⟩ = some (.slice B3 s.ress.length d3) ∧ W.cell? ⟨g2, off2 + k * 4 + 3, none⟩ = some (.slice E3 s.ress.length e3)) := Lib.hid (fun W hq => ⟨hq.cell x3, hq.cell y3⟩)
      clear n1 n2 n3 p1 p2 p3 x0 x1 x2 x3 y0 y1 y2 y3 hs hal
      go_upto_region 6 with (fail)
      have k0 : ∀ m : QW wa, m.val.cell? ⟨g, off + k * 4 + 1, none⟩ = some (.slice B1 s.who.length d1) := fun m => (HY1.out _ (HI.out.trans m.le)).1
      have k1 : ∀ m : QW wa, m.val.cell? ⟨g2, off2 + k * 4 + 1, none⟩ = some (.slice E1 s.who.length e1) := fun m => (HY1.out _ (HI.out.trans m.le)).2
      have HC1 : Hid (∀ m : QW wa, Calls Tryd.prog 38 #[.slice B1 s.who.length d1, .slice E1 s.who.length e1] m.val fun e w' => e = .returned (.bool true) ∧ Q m.val w') := Lib.hid (fun m => HS1.out _ (HI.out.trans m.le))
      refine wp_region_q (by kernel_rfl) (by kernel_rfl) ?_
      (repeat (go_big_quiet_step ((go_at_call 38; exact calls_q (HC1.out _)))))
      refine wpQuiet_nil ?_
      rintro wb ⟨mb, hmb⟩
      have HQb : Hid (Q w wb) := Lib.hid (HI.out.trans (by rw [hmb]; exact mb.le))
      clear mb hmb k0 k1 HC1 HI
      go_upto_region 7 with (fail)
      have k0 : ∀ m : QW wb, m.val.cell? ⟨g, off + k * 4 + 2, none⟩ = some (.slice B2 s.acts.length d2) := fun m => (HY2.out _ (HQb.out.trans m.le)).1
      have k1 : ∀ m : QW wb, m.val.cell? ⟨g2, off2 + k * 4 + 2, none⟩ = some (.slice E2 s.acts.length e2) := fun m => (HY2.out _ (HQb.out.trans m.le)).2
      have HC1 : Hid (∀ m : QW wb, Calls Tryd.prog 38 #[.slice B2 s.acts.length d2, .slice E2 s.acts.length e2] m.val fun e w' => e = .returned (.bool true) ∧ Q m.val w') := Lib.hid (fun m => HS2.out _ (HQb.out.trans m.le))
      refine wp_region_q (by kernel_rfl) (by kernel_rfl) ?_
      (repeat (go_big_quiet_step ((go_at_call 38; exact calls_q (HC1.out _)))))
      refine wpQuiet_nil ?_
      rintro wc ⟨mc, hmc⟩
      have HQc : Hid (Q w wc) := Lib.hid (HQb.out.trans (by rw [hmc]; exact mc.le))
      clear mc hmc k0 k1 HC1 HQb
      go_upto_region 8 with (fail)
      have k0 : ∀ m : QW wc, m.val.cell? ⟨g, off + k * 4 + 3, none⟩ = some (.slice B3 s.ress.length d3) := fun m => (HY3.out _ (HQc.out.trans m.le)).1
      have k1 : ∀ m : QW wc, m.val.cell? ⟨g2, off2 + k * 4 + 3, none⟩ = some (.slice E3 s.ress.length e3) := fun m => (HY3.out _ (HQc.out.trans m.le)).2
      have HC1 : Hid (∀ m : QW wc, Calls Tryd.prog 38 #[.slice B3 s.ress.length d3, .slice E3 s.ress.length e3] m.val fun e w' => e = .returned (.bool true) ∧ Q m.val w') := Lib.hid (fun m => HS3.out _ (HQc.out.trans m.le))
      refine wp_region_q (by kernel_rfl) (by kernel_rfl) ?_
      (repeat (go_big_quiet_step ((go_at_call 38; exact calls_q (HC1.out _)))))
      refine wpQuiet_nil ?_
      rintro wd ⟨md, hmd⟩
      have HQd : Hid (Q w wd) := Lib.hid (HQc.out.trans (by rw [hmd]; exact md.le))
      clear md hmd k0 k1 HC1 HQc
      go_upto_region 9 with (fail)
      have k0 : ∀ m : QW wd, m.val.cell? ⟨g, off + k * 4, none⟩ = some (.bool al) := fun m => (HX.out _ (HQd.out.trans m.le)).1
      have k1 : ∀ m : QW wd, m.val.cell? ⟨g2, off2 + k * 4, none⟩ = some (.bool al) := fun m => (HX.out _ (HQd.out.trans m.le)).2
      refine wp_region_q (by kernel_rfl) (by kernel_rfl) ?_
      (repeat (go_big_quiet_step (fail)))
      refine wpQuiet_nil ?_
      rintro we ⟨me, hme⟩
      have HQe : Hid (Q w we) := Lib.hid (HQd.out.trans (by rw [hme]; exact me.le))
      clear me hme k0 k1 HQd
      have hal : (al != al) = false := by simp
      go_wp2_with fail
      go_roundw
      case rel => exact ⟨k + 1, by omega, by go_num, HQe⟩
      case measure => simp [intOf]; omega
    · have hd : decide (k < l.length) = false := by simpa using hlt
      go_wp2_with fail
      go_ret
      exact ⟨rfl, HI.out⟩
theorem blanks_two (a b s : List UInt8) (ha : wsAll a) (hb : wsAll b) :
    (∀ v, parseE s = .ok v → parseE (a ++ s ++ b) = .ok v) ∧ (∀ x, parseE s = .error x → ∃ y, parseE (a ++ s ++ b) = .error y) := by
  have e0 : skipJ (a ++ s ++ b) = skipJ (s ++ b) := by rw [List.append_assoc, skip_ws ha]
  by_cases hs : skipJ s = []
  · have e1 : skipJ (s ++ b) = [] := by rw [skip_app, if_pos hs]; exact ws_skip hb
    have h1 : parseE s = .error (54, s.length) := by unfold parseE; rw [hs, val_nil]; rfl
    have h2 : parseE (a ++ s ++ b) = .error (54, (a ++ s ++ b).length) := by unfold parseE; rw [e0, e1, val_nil]; rfl
    rw [h1, h2]
    exact ⟨(fun v h => by cases h), fun x h => ⟨_, rfl⟩⟩
  · have e1 : skipJ (s ++ b) = skipJ s ++ b := by rw [skip_app, if_neg hs]
    have hx := valR_ext b 20 (skipJ s)
    unfold parseE
    rw [e0, e1]
    cases hv : valR 20 (skipJ s) with
    | bad e n =>
      rw [hv] at hx
      obtain ⟨m, h1, h2⟩ := hx.2 hb
      rw [h1]
      exact ⟨(fun v h => by cases h), fun x h => ⟨_, rfl⟩⟩
    | ok v t =>
      rw [hv] at hx
      rw [hx (.inr (ws_stop hb))]
      by_cases hk : skipJ t = []
      · have e2 : skipJ (t ++ b) = [] := by rw [skip_app, if_pos hk]; exact ws_skip hb
        simp only [hk, e2, if_true]
        exact ⟨fun v h => h, fun x h => by cases h⟩
      · have e2 : skipJ (t ++ b) = skipJ t ++ b := by rw [skip_app, if_neg hk]
        have e3 : skipJ t ++ b ≠ [] := by intro h; exact hk (List.append_eq_nil_iff.1 h).1
        simp only [hk, e2, e3, if_false]
        exact ⟨(fun v h => by cases h), fun x h => ⟨_, rfl⟩⟩
theorem blanks_pol (s : Txt) (h : s.length ≤ 7000) : (∀ l, polR s = .ok l → polR ([32, 10] ++ s ++ [9, 32]) = .ok l) ∧ (∀ x, polR s = .error x → ∃ y, polR ([32, 10] ++ s ++ [9, 32]) = .error y) := by
  have hb := blanks_two [32, 10] [9, 32] s (fun b hb => by simp at hb; rcases hb with rfl | rfl <;> rfl) (fun b hb => by simp at hb; rcases hb with rfl | rfl <;> rfl)
  have h1 : parseJ s = parseE s := parse_E s (by omega)
  have h2 : parseJ ([32, 10] ++ s ++ [9, 32]) = parseE ([32, 10] ++ s ++ [9, 32]) := parse_E _ (by simp; omega)
  unfold polR
  rw [h1, h2]
  cases he : parseE s with
  | error x =>
    obtain ⟨y, hy⟩ := hb.2 x he
    rw [hy]
    exact ⟨(fun l h => by obtain ⟨a, b⟩ := x; cases h), fun _ _ => by obtain ⟨a, b⟩ := y; exact ⟨_, rfl⟩⟩
  | ok v =>
    rw [hb.1 v he]
    exact ⟨fun l h => h, fun x h => ⟨x, h⟩⟩
end Go.Proofs.YtlhhiiemojhjdaaDoor
/- Law 18: PolicyBlanks. -/
set_option linter.unusedVariables false
set_option linter.unusedSimpArgs false
namespace Go.Proofs.YtlhhiiemojhjdaaDoor
open Go Go.RowKit
theorem stsV_nil (w : World) : StsV w (.slice none 0 0) [] := ⟨none, 0, rfl, Nat.le_refl _, by omega, fun i hi => absurd hi (Nat.not_lt_zero i)⟩
/-- What a parse gave: the statements (none, if it was refused), and the error. -/
theorem PolP.form {o : Except (Option (Int × Int)) (List StmtD)} {w : World} {e : Ending} {w' : World} (h : PolP o w e w') : Q w w' ∧ ∃ l A c ev, e = .returned (.tuple #[.slice A l.length c, ev]) ∧ StsV w' (.slice A l.length c) l ∧
    ((∃ x, o = .error x ∧ l = [] ∧ ∃ b, ev = .iface 76 (.pointer (some ⟨b, 0, none⟩))) ∨ (o = .ok l ∧ ev = .nilIface)) := by
  obtain ⟨h1, h2⟩ := h
  cases o with
  | error x =>
    obtain ⟨b, rfl, -⟩ := h2
    exact ⟨h1, [], none, 0, _, rfl, stsV_nil w', .inl ⟨x, rfl, rfl, b, rfl⟩⟩
  | ok l =>
    obtain ⟨A, c, rfl, hs⟩ := h2
    exact ⟨h1, l, A, c, _, rfl, hs.read, .inr ⟨rfl, rfl⟩⟩
set_option maxRecDepth 100000 in
set_option maxHeartbeats 4000000 in
theorem PolicyBlanks_any (s : Txt) (w : World) (hu : UT w) : Calls Tryd.prog 5 #[.string ⟨s.toArray⟩] w fun e w' => e = .returned (.bool true) ∧ Q w w' := by
  have HU := Lib.hid hu
  have HEx := Lib.hid (examples18 w hu)
  clear hu
  by_cases hl : 7000 < s.length
  · have hd : decide (7000 < s.length) = true := by simpa using hl
    have hd2 : decide ((7000 : Int) < (s.length : Int)) = true := by simp; omega
    go_enter Tryd.func5, Tryd.ntmps5
    go_wp2_with fail
    refine HEx.out.mono ?_
    rintro e w1 ⟨rfl, hq1⟩
    have HQ1 := Lib.hid hq1
    clear hq1 HEx
    go_wp2_with fail
    go_ret
    exact ⟨rfl, HQ1.out⟩
  · have hd : decide (7000 < s.length) = false := by simpa using hl
    have hd2 : decide ((7000 : Int) < (s.length : Int)) = false := by simp; omega
    have hsl : s.length ≤ 7000 := by omega
    have HBl := Lib.hid (blanks_pol s hsl)
    go_enter Tryd.func5, Tryd.ntmps5
    go_wp2_with fail
    refine HEx.out.mono ?_
    rintro e w1 ⟨rfl, hq1⟩
    have HQ1 := Lib.hid hq1
    clear hq1 HEx
    have HP1 := Lib.hid (policy_any s w1 (Utf8Tabs_below HU.out HQ1.out))
    go_wp2_with fail
    refine HP1.out.mono ?_
    rintro e w2 hp
    obtain ⟨hq2, l, A, c, ev, rfl, hs, ho⟩ := hp.form
    have HQ2 := Lib.hid (HQ1.out.trans hq2)
    have HS := Lib.hid hs
    clear hp hq2 HP1 hs
    have HP2 := Lib.hid (policy_any ([32, 10] ++ s ++ [9, 32]) w2 (Utf8Tabs_below HU.out HQ2.out))
    rcases ho with ⟨x, ho, rfl, b, rfl⟩ | ⟨ho, rfl⟩
    · obtain ⟨y, hy⟩ := HBl.out.2 x ho
      have HY := Lib.hid hy
      clear ho hy HBl
      go_wp2_with fail
      refine HP2.out.mono ?_
      rintro e w3 hp
      obtain ⟨hq3, l2, A2, c2, ev2, rfl, hs2, ho⟩ := hp.form
      have HQ3 := Lib.hid (HQ2.out.trans hq3)
      have HSa := Lib.hid (HS.out.q hq3)
      clear hp hq3 HP2
      rw [HY.out] at ho
      rcases ho with ⟨x2, -, rfl, b2, rfl⟩ | ⟨ho, -⟩
      · have HAl := Lib.hid (alike18_any [] _ _ w3 HSa.out hs2)
        clear hs2
        go_wp2_with fail
        refine HAl.out.mono ?_
        rintro e w4 ⟨rfl, hq4⟩
        have HQ4 := Lib.hid (HQ3.out.trans hq4)
        clear hq4 HAl
        go_upto_region 7 with (fail)
        go_region
        go_wp2_with fail
        go_ret
        exact ⟨rfl, HQ4.out.drew⟩
      · cases ho
    · have HY := Lib.hid (HBl.out.1 l ho)
      clear ho HBl
      go_wp2_with fail
      refine HP2.out.mono ?_
      rintro e w3 hp
      obtain ⟨hq3, l2, A2, c2, ev2, rfl, hs2, ho⟩ := hp.form
      have HQ3 := Lib.hid (HQ2.out.trans hq3)
      have HSa := Lib.hid (HS.out.q hq3)
      clear hp hq3 HP2
      rw [HY.out] at ho
      rcases ho with ⟨x2, ho, -⟩ | ⟨ho, rfl⟩
      · cases ho
      · injection ho with ho
        subst ho
        have HAl := Lib.hid (alike18_any l _ _ w3 HSa.out hs2)
        clear hs2
        go_wp2_with fail
        refine HAl.out.mono ?_
        rintro e w4 ⟨rfl, hq4⟩
        have HQ4 := Lib.hid (HQ3.out.trans hq4)
        clear hq4 HAl
        go_upto_region 7 with (fail)
        go_region
        go_wp2_with fail
        go_ret
        exact ⟨rfl, HQ4.out.drew⟩
end Go.Proofs.YtlhhiiemojhjdaaDoor
/- The wrap with the laid variables and the world's shape both handed to the contract. -/
set_option linter.unusedVariables false
namespace Go.Proofs.YtlhhiiemojhjdaaDoor
open Go Go.RowKit
theorem returnsInHanded_and_shaped {H : Type} {enc : TypeId × Value → H} {a : Assume} {C : Checked} {os : Os} {f : FuncId} {fn : Func} {s : ChangeSpec} {conds : List PathCond} {apart fresh handsOn again : Bool} {X : World → Array Value → Prop}
    (hX : ∀ (w w' : World) (args : Array Value), w.heap = w'.heap → X w args → X w' args)
    (own : ownKnob C.prog.godebug = none) (started : os.Started) (noInit : C.prog.inits.idxOf? f = none) (hfn : C.prog.funcs[f]? = some fn)
    (witness : ∃ (w : World) (tape : Tape) (i : Input), w.os = os ∧ (w.forCall tape i).Shaped C.prog ∧ i.vars = [] ∧ Input.okWide C.prog (w.forCall tape i) .any w.heap.size f i ∧
      ((s.pre enc C.prog fn conds apart (w.forCall tape i).memory i.args ∧ X (w.forCall tape i).memory i.args) ∧ sizedMet enc C.prog fn (OpenSpec.ofChange s) apart (w.forCall tape i).memory i.args) ∧ a.holds C.prog (lone (Frame.enter C.prog f i.args .normal) [] (w.forCall tape i)))
    (contract : ∀ (W : World) (base : Nat) (args : Array Value) (ds gs : List (DataW H)) (before : List MemPlace),
      (∀ (j : Nat) t v, fn.params[j]? = some t → args[j]? = some v → Value.okWide C.prog W .any base t v) →
      DataW.Whole enc C.prog fn.params.toList s.vars apart W args.toList ds gs before →
      conds.all (PathCond.test C.prog ⟨fn.params.toList, ds, s.plain.varTypes C.prog, gs⟩) = true →
      (DataW.weightsEach C.prog (fn.params.toList ++ s.plain.varTypes C.prog) (ds ++ gs)).all (· ≤ reachBytes) = true → X W args →
      W.ShapedOpen C.prog →
      a.holds C.prog (lone (Frame.enter C.prog f args .normal) [] W) →
      Calls C.prog f args W fun e W' => ∃ v, e = .returned v ∧ s.post enc C.prog fn apart fresh handsOn again W args v W') :
    ReturnsInHanded a C os f .any (fun w args => (s.pre enc C.prog fn conds apart w args ∧ X w args) ∧ sizedMet enc C.prog fn (OpenSpec.ofChange s) apart w args) (s.post enc C.prog fn apart fresh handsOn again) := by
  refine returnsInHanded_of_calls own started noInit witness ?_
  intro w tape i _ hsh _ hok hpre hholds
  obtain ⟨_, _, _, fn', hfn', _, _, _, _, hval⟩ := hok
  have e : fn' = fn := Option.some.inj (hfn'.symm.trans hfn)
  subst e
  obtain ⟨⟨⟨ds, gs, before, hw, hc⟩, hx⟩, hz⟩ := hpre
  have hw' := DataW.Whole.of_heap (w' := w.forCall tape i) (by rfl) hw
  refine (contract (w.forCall tape i) w.heap.size i.args ds gs before hval hw' hc (hz.weights hw) (hX _ _ _ (by rfl) hx) hsh hholds).mono fun e W' ⟨v, he, hp⟩ => ?_
  subst he
  exact ChangeSpec.post_blind hp
theorem door_laidJ (os : Os) (args : Array Value) : laidMetH Tryd.prog laidJ ((World.laidAll Tryd.prog os laidJ).forCall (fun _ _ => 0) ⟨#[], args, []⟩).memory := by
  rw [MakeChecks.laidMetH_plain _ _ _ (by kernel_rfl)]; exact laid_metJ os args
end Go.Proofs.YtlhhiiemojhjdaaDoor
