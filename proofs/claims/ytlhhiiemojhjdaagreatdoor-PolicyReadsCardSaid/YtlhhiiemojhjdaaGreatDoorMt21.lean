/- Texts of this proof, laid into one: PpA, PpB, PpC. -/
import Derived.Test.YtlhhiiemojhjdaaGreatDoorMt20
set_option linter.unusedVariables false
set_option linter.unusedSimpArgs false
namespace Go.Proofs.YtlhhiiemojhjdaaGreatDoor
open Go Go.RowKit
def okA (ns names : List Txt) (i : Nat) : Bool := names.any (fun n => gL ns i == n) && (List.range i).all (fun m => gL ns m != gL ns i)
def anyT (names : List Txt) (nm : Txt) (k : Nat) : Bool := (names.take k).any (fun n => nm == n)
def allT (ns : List Txt) (nm : Txt) (b : Bool) (k : Nat) : Bool := b && (List.range k).all (fun m => gL ns m != nm)
theorem gL_get (ns : List Txt) (i : Nat) (h : i < ns.length) : gL ns i = ns[i] := by simp [gL, List.getD, h]
theorem anyT_next (names : List Txt) (nm : Txt) (k : Nat) (h : k < names.length) : anyT names nm (k + 1) = (anyT names nm k || (nm == gL names k)) := by
  unfold anyT
  rw [show names.take (k + 1) = names.take k ++ [gL names k] from by rw [gL_get names k h, List.take_add_one, List.getElem?_eq_getElem h]; rfl, List.any_append]
  simp
theorem allT_zero (ns : List Txt) (nm : Txt) (b : Bool) : allT ns nm b 0 = b := by simp [allT]
theorem allT_next (ns : List Txt) (nm : Txt) (b : Bool) (k : Nat) : allT ns nm b (k + 1) = (allT ns nm b k && (gL ns k != nm)) := by
  unfold allT
  rw [List.range_succ, List.all_append]
  simp [Bool.and_assoc]
theorem okA_is (ns names : List Txt) (i : Nat) : okA ns names i = allT ns (gL ns i) (anyT names (gL ns i) names.length) i := by
  unfold okA allT anyT
  rw [List.take_length]
theorem only_yes {k : Int} {t : Txt} {ns names : List Txt} {ks : List JsonD} (h : ∀ i, i < ns.length → okA ns names i = true) : onlyJ (.mk k t ns ks) names = (k == 7) := by
  unfold onlyJ
  have h1 : ns.Nodup := by
    unfold List.Nodup
    rw [List.pairwise_iff_getElem]
    intro i j hi hj hij e
    have := h j hj
    unfold okA at this
    simp only [Bool.and_eq_true, List.all_eq_true, List.mem_range, bne_iff_ne, ne_eq] at this
    exact this.2 i hij (by rw [gL_get ns i hi, gL_get ns j hj]; exact e)
  have h2 : ns.all (fun n => decide (n ∈ names)) = true := by
    rw [List.all_eq_true]
    intro x hx
    obtain ⟨i, hi, rfl⟩ := List.mem_iff_getElem.1 hx
    have := h i hi
    unfold okA at this
    simp only [Bool.and_eq_true, List.any_eq_true, beq_iff_eq] at this
    obtain ⟨n, hn, e⟩ := this.1
    rw [gL_get ns i hi] at e
    simp [e, hn]
  show (decide (k = 7) && decide ns.Nodup && ns.all (fun n => decide (n ∈ names))) = (k == 7)
  rw [h2, decide_eq_true h1, Bool.and_true, Bool.and_true]
  rfl
theorem only_not {k : Int} {t : Txt} {ns names : List Txt} {ks : List JsonD} {i : Nat} (hi : i < ns.length) (h : okA ns names i = false) : onlyJ (.mk k t ns ks) names = false := by
  by_cases ho : onlyJ (.mk k t ns ks) names = true
  · exfalso
    unfold onlyJ at ho
    simp only [Bool.and_eq_true, decide_eq_true_eq, List.all_eq_true] at ho
    obtain ⟨⟨_, h1⟩, h2⟩ := ho
    have h1 : ns.Nodup := h1
    have h2 : ∀ x ∈ ns, x ∈ names := h2
    have : okA ns names i = true := by
      unfold okA
      simp only [Bool.and_eq_true, List.any_eq_true, beq_iff_eq, List.all_eq_true, List.mem_range, bne_iff_ne, ne_eq]
      refine ⟨⟨gL ns i, ?_, rfl⟩, fun m hm e => ?_⟩
      · rw [gL_get ns i hi]; exact h2 _ (List.getElem_mem hi)
      · have hm' : m < ns.length := by omega
        rw [gL_get ns m hm', gL_get ns i hi] at e
        unfold List.Nodup at h1
        rw [List.pairwise_iff_getElem] at h1
        exact h1 m i hm' hi hm e
    rw [this] at h; cases h
  · simpa using ho
theorem lookup_ix (x : Txt) : ∀ (ns : List Txt) (ks : List JsonD) (k : Nat), ns.length = ks.length → ((ns.zip ks).lookup x = if (k : Int) ≤ ixN x ns k then some (gK ks ((ixN x ns k).toNat - k)) else none)
  | [], ks, k, h => by
    rw [ixN, if_neg (by omega)]; rfl
  | y :: r, [], k, h => by simp at h
  | y :: r, j :: s, k, h => by
    rw [List.zip_cons_cons, List.lookup_cons, ixN]
    by_cases e : x = y
    · subst e
      rw [if_pos rfl]
      simp [gK, List.getD]
    · have e2 : (x == y) = false := by simpa using e
      rw [e2, if_neg e]
      simp only
      rw [lookup_ix x r s (k + 1) (by simpa using h)]
      have hb := ixN_bound x r (k + 1)
      have hlow := ixN_low x r (k + 1)
      by_cases hc : ((k + 1 : Nat) : Int) ≤ ixN x r (k + 1)
      · rw [if_pos hc, if_pos (by omega)]
        obtain ⟨m, hm⟩ : ∃ m : Nat, ixN x r (k + 1) = (m : Int) := ⟨(ixN x r (k + 1)).toNat, by omega⟩
        rw [hm] at hc ⊢
        have e3 : (m : Int).toNat - k = ((m : Int).toNat - (k + 1)) + 1 := by omega
        rw [e3]; rfl
      · rw [if_neg hc, if_neg ?_]
        intro h2
        have := hb (by omega)
        omega
theorem find_get {j : JsonD} {x : Txt} (hk : j.kind = 7) (hr : rtB j 20 8000 = true) : getJ j x = if (findJ j x).2 = true then some (findJ j x).1 else none := by
  obtain ⟨k, t, ns, ks⟩ := j
  have hk : k = 7 := hk
  subst hk
  have hl := wf_obj (rt_wf hr).1
  show (ns.zip ks).lookup x = _
  rw [lookup_ix x ns ks 0 hl]
  by_cases h : 0 ≤ ixN x ns 0
  · have e : findJ (.mk 7 t ns ks) x = (gK ks (ixN x ns 0).toNat, true) := by unfold findJ; rw [if_pos ⟨rfl, hr, h⟩]; rfl
    rw [e, if_pos (show ((0 : Nat) : Int) ≤ ixN x ns 0 from h)]
    simp
  · have e : findJ (.mk 7 t ns ks) x = (zeroJ, false) := find_no (fun hh => h hh.2.2)
    rw [e, if_neg (show ¬ ((0 : Nat) : Int) ≤ ixN x ns 0 from h)]
    simp
theorem wf_up : ∀ (n : Nat) (j : JsonD), cntJ j ≤ n → ∀ (d e : Nat), d ≤ e → wfJ j d = true → wfJ j e = true
  | 0, j, hn, _, _, _, _ => absurd hn (by have := cnt_pos j; omega)
  | n + 1, .mk k t ns ks, hn, d, e, hd, h => by
    rw [cntJ] at hn
    have hk : ∀ l : List JsonD, cntKs l ≤ n → wfKs l (d - 1) = true → wfKs l (e - 1) = true := by
      intro l
      induction l with
      | nil => intro _ _; rw [wfKs]
      | cons x r ih =>
        intro h1 h2
        rw [cntKs] at h1
        rw [wfKs] at h2 ⊢
        simp only [Bool.and_eq_true] at h2 ⊢
        exact ⟨wf_up n x (by omega) (d - 1) (e - 1) (by omega) h2.1, ih (by omega) h2.2⟩
    have hk := hk ks (by omega)
    rw [wfJ] at h ⊢
    split
    · next h1 => rw [if_pos h1] at h; exact h
    · next h1 =>
      rw [if_neg h1] at h
      split
      · next h2 => rw [if_pos h2] at h; exact h
      · next h2 =>
        rw [if_neg h2] at h
        split
        · next h3 => rw [if_pos h3] at h; exact h
        · next h3 =>
          rw [if_neg h3] at h
          split
          · next h4 =>
            rw [if_pos h4] at h
            simp only [Bool.and_eq_true, decide_eq_true_eq] at h ⊢
            exact ⟨⟨h.1.1, by omega⟩, hk h.2⟩
          · next h4 =>
            rw [if_neg h4] at h
            split
            · next h5 =>
              rw [if_pos h5] at h
              simp only [Bool.and_eq_true, decide_eq_true_eq] at h ⊢
              exact ⟨⟨h.1.1, by omega⟩, hk h.2⟩
            · next h5 => rw [if_neg h5] at h; cases h
theorem kid_right {k : Int} {t : Txt} {ns : List Txt} {ks : List JsonD} (hr : rtB (.mk k t ns ks) 20 8000 = true) {i : Nat} (hi : i < ks.length) : rtB (gK ks i) 20 8000 = true := by
  obtain ⟨hw, hc⟩ := rt_wf hr
  have h1 := cnt_gK hi
  rw [cntJ] at hc
  have key : wfKs ks 19 = true ∨ ks = [] := by
    rw [wfJ] at hw
    split at hw
    · right; simp only [Bool.and_eq_true, List.isEmpty_iff] at hw; exact hw.2
    · split at hw
      · right; simp only [Bool.and_eq_true, List.isEmpty_iff] at hw; exact hw.2
      · split at hw
        · right; simp only [Bool.and_eq_true, List.isEmpty_iff] at hw; exact hw.1.2
        · split at hw
          · left; simp only [Bool.and_eq_true] at hw; exact hw.2
          · split at hw
            · left; simp only [Bool.and_eq_true] at hw; exact hw.2
            · cases hw
  rcases key with h | h
  · have hk : ∀ (l : List JsonD) (i : Nat), wfKs l 19 = true → i < l.length → wfJ (gK l i) 19 = true := by
      intro l
      induction l with
      | nil => intro i _ hi; simp at hi
      | cons a r ih =>
        intro i h2 hi
        rw [wfKs] at h2
        simp only [Bool.and_eq_true] at h2
        cases i with
        | zero => exact h2.1
        | succ i => exact ih i h2.2 (by simpa using hi)
    have hk := hk ks i h hi
    unfold rtB
    simp only [Bool.and_eq_true, decide_eq_true_eq]
    exact ⟨wf_up _ _ (Nat.le_refl _) 19 20 (by omega) hk, by omega⟩
  · rw [h] at hi; simp at hi
theorem found_right {j : JsonD} {x : Txt} (h : (findJ j x).2 = true) : rtB (findJ j x).1 20 8000 = true := by
  unfold findJ at h ⊢
  split at h
  · next hh =>
    rw [if_pos hh]
    obtain ⟨k, t, ns, ks⟩ := j
    obtain ⟨h1, h2, h3⟩ := hh
    have h1 : k = 7 := h1
    subst h1
    have h3 : 0 ≤ ixN x ns 0 := h3
    have hb := ixN_bound x ns 0 h3
    have hl := wf_obj (rt_wf h2).1
    exact kid_right h2 (i := (ixN x ns 0).toNat) (by omega)
  · cases h
end Go.Proofs.YtlhhiiemojhjdaaGreatDoor
set_option linter.unusedVariables false
set_option linter.unusedSimpArgs false
namespace Go.Proofs.YtlhhiiemojhjdaaGreatDoor
open Go Go.RowKit
set_option maxRecDepth 100000 in
set_option maxHeartbeats 8000000 in
theorem ronly_any (j : JsonD) (names : List Txt) (w : World) (vn vk va : Value) (hj : JV w j vn vk) (hn : NsV w va names) :
    Calls Tryz.prog 13 #[.agg (cellJ j vn vk).toArray, va] w fun e w' => e = .returned (.bool (onlyJ j names)) ∧ Q w w' := by
  obtain ⟨k, t, ns, ks⟩ := j
  have hns : NsV w vn ns := by rw [JV] at hj; exact hj.1
  obtain ⟨-, ⟨A2, n2, c2, rfl⟩⟩ := jv_slices hj
  obtain ⟨A1, c1, rfl, hn1, hn2, hn3⟩ := hns.at
  obtain ⟨A, c, rfl, hc1, hc2, hc3⟩ := hn.at
  have HN3 := Lib.hid hn3
  have HC3 := Lib.hid hc3
  have hnl : ns.length ≤ 9223372036854775807 := by omega
  have hml : names.length ≤ 9223372036854775807 := by omega
  clear hj hn hns hn3 hc3
  go_enter Tryz.func13, Tryz.ntmps13
  go_upto_region 1 with (fail)
  obtain ⟨W1, hW1⟩ : ∃ W1, w.alloc (.cells (cellJ (.mk k t ns ks) (.slice A1 ns.length c1) (.slice A2 n2 c2)).toArray 46) = W1 := ⟨_, rfl⟩
  have hr1 : W1.heap[w.heap.size]? = some (.cells (cellJ (.mk k t ns ks) (.slice A1 ns.length c1) (.slice A2 n2 c2)).toArray 46 (0, 0)) := by rw [← hW1]; exact heap_alloc_new w _
  have hq1 : Q w W1 := by rw [← hW1]; exact (Q.refl w).alloc _
  rw [hW1]
  obtain ⟨jb, hjb⟩ : ∃ jb, w.heap.size = jb := ⟨_, rfl⟩
  rw [hjb] at hr1 ⊢
  have HR1 := Lib.hid hr1
  have HQ1 := Lib.hid hq1
  clear hW1 hr1 hq1 hjb
  go_wp2_with fail
  go_loopg [5] (ns.length + 1) (fun gk i wx => ∃ q : Nat, gk = ns.length - q + 1 ∧ q ≤ ns.length ∧ i = .int .i64 (q : Int) ∧ Hid (∀ m, m < q → okA ns names m = true) ∧ Hid (Q W1 wx))
  case atStart => exact ⟨0, rfl, by omega, rfl, Lib.hid (fun m h => by omega), Lib.hid (Q.refl W1)⟩
  case round =>
    obtain ⟨q, rfl, hq, rfl, HI, HQI⟩ := hrel
    rename World => wa
    have HXs : Hid (∀ W, Q W1 W → W.cell? ⟨jb, 0, none⟩ = some (.int .i64 k) ∧ W.cell? ⟨jb, 2, none⟩ = some (.slice A1 ns.length c1)) := Lib.hid (fun W hq => by
      have h := hq.block HR1.out
      refine ⟨?_, ?_⟩ <;> (rw [cell_of_row _ _ _ _ _ _ h]; rfl))
    by_cases hlt : q < ns.length
    · have hdq : decide (q < ns.length) = true := by simpa using hlt
      obtain ⟨x0, x2⟩ := HXs.out wa HQI.out
      obtain ⟨gn, on, hAn, hcn⟩ := HN3.out q hlt
      have HAn := Lib.hid hAn
      obtain ⟨nm, hnm⟩ : ∃ nm, gL ns q = nm := ⟨_, rfl⟩
      have HNm := Lib.hid hnm
      rw [hnm] at hcn
      have HCn := Lib.hid hcn
      clear hcn hnm hAn x0
      go_wp2_with fail
      clear x2
      go_loopg [6, 7] (names.length + 1) (fun gk o i wx => ∃ (m : Nat) (b : Bool), gk = names.length - m + 1 ∧ m ≤ names.length ∧ o = .bool b ∧ i = .int .i64 (m : Int) ∧ Hid (b = anyT names nm m) ∧ Hid (Q W1 wx))
      case atStart => exact ⟨0, false, rfl, by omega, rfl, rfl, Lib.hid rfl, HQI⟩
      case round =>
        obtain ⟨m, b, rfl, hm, rfl, rfl, HB, HQB⟩ := hrel
        rename World => wb
        by_cases hlm : m < names.length
        · have hdm : decide (m < names.length) = true := by simpa using hlm
          obtain ⟨x0, x2⟩ := HXs.out wb HQB.out
          obtain ⟨ga, oa, hAa, hca⟩ := HC3.out m hlm
          subst hAa
          obtain ⟨na, hna⟩ : ∃ na, gL names m = na := ⟨_, rfl⟩
          rw [hna] at hca
          have y0 := (HQ1.out.trans HQB.out).cell hca
          have hAn := HAn.out
          subst hAn
          have y1 := (HQ1.out.trans HQB.out).cell HCn.out
          have HN : Hid ((b || (nm == na)) = anyT names nm (m + 1)) := Lib.hid (by rw [anyT_next names nm m hlm, ← HB.out, hna])
          clear hca hna HB x0
          have HQd := Lib.hid HQB.out.drew
          cases b with
          | true =>
            go_upto_region 8 with (fail)
            go_region
            clear x2 y0 y1
            go_wp2_with fail
            go_roundg (names.length - (m + 1) + 1)
            case measure => omega
            case rel => exact ⟨m + 1, true, rfl, by omega, rfl, by simp, Lib.hid HN.out, HQd⟩
          | false =>
            go_upto_region 8 with (fail)
            go_region
            clear x2 y0 y1
            go_wp2_with fail
            go_roundg (names.length - (m + 1) + 1)
            case measure => omega
            case rel => exact ⟨m + 1, _, rfl, by omega, rfl, by simp, Lib.hid HN.out, HQd⟩
        · have hdm : decide (m < names.length) = false := by simpa using hlm
          have hme : m = names.length := by omega
          subst hme
          go_wp2_with fail
          go_loopg [6, 8] (q + 1) (fun gk o i wx => ∃ (m : Nat) (d : Bool), gk = q - m + 1 ∧ m ≤ q ∧ o = .bool d ∧ i = .int .i64 (m : Int) ∧ Hid (d = allT ns nm b m) ∧ Hid (Q W1 wx))
          case atStart => exact ⟨0, b, rfl, by omega, rfl, rfl, Lib.hid (by rw [allT_zero]), HQB⟩
          case round =>
            obtain ⟨m, d, rfl, hm, rfl, rfl, HD, HQD⟩ := hrel
            rename World => wc
            by_cases hlm2 : m < q
            · have hdm2 : decide (m < q) = true := by simpa using hlm2
              obtain ⟨x0, x2⟩ := HXs.out wc HQD.out
              obtain ⟨gm, om, hAm, hcm⟩ := HN3.out m (by omega)
              have hAn := HAn.out
              obtain rfl : A1 = some ⟨gn, on, none⟩ := hAn
              have e9 := hAm
              injection e9 with e9
              injection e9 with e8 e9
              subst e8 e9
              obtain ⟨nc, hnc⟩ : ∃ nc, gL ns m = nc := ⟨_, rfl⟩
              rw [hnc] at hcm
              have y0 := (HQ1.out.trans HQD.out).cell hcm
              have y1 := (HQ1.out.trans HQD.out).cell HCn.out
              have HN : Hid ((d && (nc != nm)) = allT ns nm b (m + 1)) := Lib.hid (by rw [allT_next, ← HD.out, hnc])
              have HQd := Lib.hid HQD.out.drew
              have hmn : m < ns.length := by omega
              clear hcm hnc HD x0 hAm
              cases d with
              | false =>
                go_upto_region 12 with (fail)
                go_region
                clear x2 y0 y1
                go_wp2_with fail
                go_roundg (q - (m + 1) + 1)
                case measure => omega
                case rel => exact ⟨m + 1, false, rfl, by omega, rfl, by simp, Lib.hid HN.out, HQd⟩
              | true =>
                go_upto_region 12 with (fail)
                go_region
                clear x2 y0 y1
                go_wp2_with fail
                go_roundg (q - (m + 1) + 1)
                case measure => omega
                case rel => exact ⟨m + 1, _, rfl, by omega, rfl, by simp, Lib.hid HN.out, HQd⟩
            · have hdm2 : decide (m < q) = false := by simpa using hlm2
              have hmq : m = q := by omega
              subst hmq
              have HOk : Hid (d = okA ns names m) := Lib.hid (by rw [okA_is, HNm.out, HD.out, HB.out])
              have hd2 := hdm2
              cases d with
              | false =>
                have HX : Hid (onlyJ (.mk k t ns ks) names = false) := Lib.hid (only_not hlt HOk.out.symm)
                have HQe := Lib.hid (HQ1.out.trans HQD.out)
                go_wp2_with fail
                go_ret
                exact ⟨by rw [HX.out]; rfl, HQe.out⟩
              | true =>
                have HN : Hid (∀ i, i < m + 1 → okA ns names i = true) := Lib.hid (fun i hi => by
                  by_cases h : i < m
                  · exact HI.out i h
                  · rw [show i = m by omega]; exact HOk.out.symm)
                go_wp2_with fail
                go_roundg (ns.length - (m + 1) + 1)
                case measure => omega
                case rel => exact ⟨m + 1, rfl, by omega, by simp, HN, HQD⟩
    · have hdq : decide (q < ns.length) = false := by simpa using hlt
      obtain ⟨x0, x2⟩ := HXs.out wa HQI.out
      have HX : Hid (onlyJ (.mk k t ns ks) names = (k == 7)) := Lib.hid (only_yes (fun i hi => HI.out i (by omega)))
      have HQe := Lib.hid (HQ1.out.trans HQI.out)
      go_wp2_with fail
      go_ret
      exact ⟨by rw [HX.out]; rfl, HQe.out⟩
end Go.Proofs.YtlhhiiemojhjdaaGreatDoor
set_option linter.unusedVariables false
set_option linter.unusedSimpArgs false
namespace Go.Proofs.YtlhhiiemojhjdaaGreatDoor
open Go Go.RowKit
def NsT (w : World) (v : Value) (ns : List Txt) : Prop := NsV w v ns ∧ ∀ b, v.ownBlock = some b → ∃ cs fr, w.heap[b]? = some (.cells cs 9 fr)
theorem NsT.slice {w : World} {v : Value} {ns : List Txt} (h : NsT w v ns) : ∃ A c, v = .slice A ns.length c := h.1.slice
theorem NsT.of {w w' : World} {v : Value} {ns : List Txt} (h : NsT w v ns) (hb : ∀ b, v.ownBlock = some b → w'.heap[b]? = w.heap[b]?) : NsT w' v ns := by
  obtain ⟨⟨A, c, rfl, h1, h2, h3⟩, h4⟩ := h
  refine ⟨⟨A, c, rfl, h1, h2, fun h0 => ?_⟩, fun b e => ?_⟩
  · obtain ⟨g, off, rfl, h5⟩ := h3 h0
    refine ⟨g, off, rfl, fun i hi => ?_⟩
    have h6 := h5 i hi
    unfold World.cell? at h6 ⊢
    simp only at h6 ⊢
    rw [hb g rfl]; exact h6
  · obtain ⟨cs, fr, h5⟩ := h4 b e
    exact ⟨cs, fr, by rw [hb b e]; exact h5⟩
theorem NsT.q {w w' : World} {v : Value} {ns : List Txt} (h : NsT w v ns) (hq : Q w w') : NsT w' v ns := h.of fun b e => by
  obtain ⟨cs, fr, h5⟩ := h.2 b e
  rw [hq.block h5, h5]
theorem NsT.ne {w : World} {v : Value} {ns : List Txt} (h : NsT w v ns) {B : Nat} {cs : Array Value} {fr : Nat × Nat} (hb : w.heap[B]? = some (.cells cs 41 fr)) {b : Nat} (e : v.ownBlock = some b) : b ≠ B := by
  intro e2
  subst e2
  obtain ⟨ds, fr2, h5⟩ := h.2 b e
  rw [hb] at h5
  injection h5 with h5
  injection h5 with _ h5 _
  exact absurd h5 (by decide)
theorem nst_set {W : World} {v u : Value} {l : List Txt} {B i : Nat} {cs : Array Value} {fr : Nat × Nat} (h : NsT W v l) (hb : W.heap[B]? = some (.cells cs 41 fr)) : NsT (W.setCell ⟨B, i, none⟩ u) v l :=
  h.of fun b e => heap_setCell_other W ⟨B, i, none⟩ b _ (h.ne hb e)
theorem nst_row {W : World} {v : Value} {l : List Txt} {B : Nat} {cs ds : Array Value} {fr : Nat × Nat} (h : NsT W v l) (hb : W.heap[B]? = some (.cells cs 41 fr)) : NsT (W.setRow B ds) v l :=
  h.of fun b e => setRow_other _ _ _ _ (h.ne hb e)
theorem NsT.grown {w w' : World} {v x : Value} {ns : List Txt} {base n : Nat} {xs : List Value} (h : NsT w v ns) (ho : w.ownsRow base 41 4 x n xs) (hg : w.grownBy w' x.ownBlock) : NsT w' v ns := h.of fun b e => by
  obtain ⟨cs, fr, h5⟩ := h.2 b e
  refine hg.block b (lt_of_heap h5) (fun e2 => ?_)
  rcases ho.2 with ⟨hx, _⟩ | ⟨g, c, cur, hx, _, hh, _⟩
  · rw [hx] at e2; cases e2
  · rw [hx] at e2
    have e3 : g = b := by simpa [Value.ownBlock] using e2.symm
    subst e3
    exact h.ne hh e rfl
def RTxP (o : Option (List Txt)) (w : World) (e : Ending) (w' : World) : Prop := Q w w' ∧
  match o with
  | some l => ∃ v, e = .returned (.tuple #[v, .bool true]) ∧ NsT w' v l
  | none => e = .returned (.tuple #[.slice none 0 0, .bool false])
theorem texts_five {t : Txt} {ns : List Txt} {ks : List JsonD} : textsJ (.mk 5 t ns ks) = some [t] := by
  unfold textsJ; rw [if_pos (show JsonD.kind (.mk 5 t ns ks) = 5 from rfl)]; rfl
theorem texts_else {k : Int} {t : Txt} {ns : List Txt} {ks : List JsonD} (h5 : k ≠ 5) (h : k ≠ 6 ∨ ks = []) : textsJ (.mk k t ns ks) = none := by
  unfold textsJ
  rw [if_neg (show ¬ JsonD.kind (.mk k t ns ks) = 5 from h5)]
  rcases h with h | h
  · rw [if_neg (show ¬ JsonD.kind (.mk k t ns ks) = 6 from h)]
  · subst h
    split
    · rw [if_neg]
      intro h; exact h.1 rfl
    · rfl
theorem texts_bad {t : Txt} {ns : List Txt} {ks : List JsonD} {i : Nat} (hi : i < ks.length) (h : (gK ks i).kind ≠ 5) : textsJ (.mk 6 t ns ks) = none := by
  unfold textsJ
  rw [if_neg (show ¬ JsonD.kind (.mk 6 t ns ks) = 5 from show ¬ (6 : Int) = 5 by decide), if_pos (show JsonD.kind (.mk 6 t ns ks) = 6 from rfl), if_neg]
  rintro ⟨_, h2⟩
  have h2 : ks.all (fun k => decide (k.kind = 5)) = true := h2
  rw [List.all_eq_true] at h2
  have := h2 _ (List.getElem_mem hi)
  rw [← gK_get ks i hi] at this
  exact h (of_decide_eq_true this)
theorem texts_good {t : Txt} {ns : List Txt} {ks : List JsonD} (h0 : 0 < ks.length) (h : ∀ i, i < ks.length → (gK ks i).kind = 5) : textsJ (.mk 6 t ns ks) = some (ks.map (·.text)) := by
  unfold textsJ
  rw [if_neg (show ¬ JsonD.kind (.mk 6 t ns ks) = 5 from show ¬ (6 : Int) = 5 by decide), if_pos (show JsonD.kind (.mk 6 t ns ks) = 6 from rfl), if_pos]
  · rfl
  · refine ⟨fun e => ?_, ?_⟩
    · have e : ks = [] := e
      rw [e] at h0; simp at h0
    · show ks.all (fun k => decide (k.kind = 5)) = true
      rw [List.all_eq_true]
      intro x hx
      obtain ⟨i, hi, rfl⟩ := List.mem_iff_getElem.1 hx
      have := h i hi
      rw [gK_get ks i hi] at this
      simpa using this
theorem ns_one (w : World) (t : Txt) : NsV (w.alloc (.cells #[.string ⟨t.toArray⟩] 9)) (.slice (some ⟨w.heap.size, 0, none⟩) 1 1) [t] := by
  refine ⟨_, 1, rfl, by simp, by omega, fun _ => ⟨w.heap.size, 0, rfl, fun i hi => ?_⟩⟩
  have : i = 0 := by simp at hi; omega
  subst this
  rw [cell_of_row _ _ _ _ _ _ (heap_alloc_new w _)]
  rfl
theorem nst_one (w : World) (t : Txt) : NsT (w.alloc (.cells #[.string ⟨t.toArray⟩] 9)) (.slice (some ⟨w.heap.size, 0, none⟩) 1 1) [t] :=
  ⟨ns_one w t, fun b e => by
    have e : w.heap.size = b := by simpa [Value.ownBlock] using e
    subst e
    exact ⟨_, _, heap_alloc_new w _⟩⟩
theorem OwnTx.nst {base : Nat} {w : World} {v : Value} {ls : List Txt} (h : OwnTx base w v ls) : NsT w v ls :=
  ⟨OwnTx.ns h, fun b e => by
    rcases h.2 with ⟨hv, _⟩ | ⟨g, c, cur, hv, _, hh, _⟩
    · rw [hv] at e; cases e
    · rw [hv] at e
      have e3 : g = b := by simpa [Value.ownBlock] using e
      subst e3
      exact ⟨_, _, hh⟩⟩
set_option maxRecDepth 100000 in
set_option maxHeartbeats 8000000 in
theorem rtexts_any (j : JsonD) (w : World) (vn vk : Value) (hj : JV w j vn vk) (hr : rtB j 20 8000 = true) :
    Calls Tryz.prog 29 #[.agg (cellJ j vn vk).toArray] w (RTxP (textsJ j) w) := by
  obtain ⟨k, t, ns, ks⟩ := j
  obtain ⟨⟨A1, n1, c1, rfl⟩, -⟩ := jv_slices hj
  obtain ⟨A2, c2, rfl, hc1, hc2, hkid⟩ := hj.kidAt
  have hkl : ks.length ≤ 8000 := by
    have h1 := cnt_len ks
    have h2 := (rt_wf hr).2
    rw [cntJ] at h2
    omega
  have HKid := Lib.hid hkid
  obtain ⟨o, ho⟩ : ∃ o, textsJ (.mk k t ns ks) = o := ⟨_, rfl⟩
  have HO := Lib.hid ho
  rw [ho]
  clear hj hr hkid ho
  go_enter Tryz.func29, Tryz.ntmps29
  go_upto_region 1 with (fail)
  obtain ⟨W1, hW1⟩ : ∃ W1, w.alloc (.cells (cellJ (.mk k t ns ks) (.slice A1 n1 c1) (.slice A2 ks.length c2)).toArray 46) = W1 := ⟨_, rfl⟩
  have hr1 : W1.heap[w.heap.size]? = some (.cells (cellJ (.mk k t ns ks) (.slice A1 n1 c1) (.slice A2 ks.length c2)).toArray 46 (0, 0)) := by rw [← hW1]; exact heap_alloc_new w _
  have hq1 : Q w W1 := by rw [← hW1]; exact (Q.refl w).alloc _
  rw [hW1]
  obtain ⟨jb, hjb⟩ : ∃ jb, w.heap.size = jb := ⟨_, rfl⟩
  rw [hjb] at hr1 ⊢
  have HR1 := Lib.hid hr1
  have HQ1 := Lib.hid hq1
  have HXs : Hid (∀ W, Q W1 W → W.cell? ⟨jb, 0, none⟩ = some (.int .i64 k) ∧ W.cell? ⟨jb, 1, none⟩ = some (.string ⟨t.toArray⟩) ∧ W.cell? ⟨jb, 3, none⟩ = some (.slice A2 ks.length c2)) := Lib.hid (fun W hq => by
    have h := hq.block HR1.out
    refine ⟨?_, ?_, ?_⟩ <;> (rw [cell_of_row _ _ _ _ _ _ h]; rfl))
  clear hW1 hr1 hq1 hjb
  obtain ⟨x0, x1, x3⟩ := HXs.out W1 (Q.refl W1)
  by_cases h5 : k = 5
  · subst h5
    have HX : Hid (RTxP o w (.returned (.tuple #[.slice (some ⟨W1.heap.size, 0, none⟩) 1 1, .bool true])) (W1.alloc (.cells #[.string ⟨t.toArray⟩] 9))) := Lib.hid (by
      refine ⟨HQ1.out.alloc _, ?_⟩
      rw [← HO.out, texts_five]
      exact ⟨_, rfl, nst_one W1 t⟩)
    clear x3
    go_wp2_with fail
    go_ret2
    exact HX.out
  · have g5 : (k == 5) = false := by simpa using h5
    by_cases h6 : k = 6
    · subst h6
      by_cases h0 : ks.length = 0
      · have g0 : (ks.length == 0) = true := by simpa using h0
        have g1 : ((ks.length : Int) == 0) = true := by rw [h0]; rfl
        have HX : Hid (RTxP o w (.returned (.tuple #[.slice none 0 0, .bool false])) W1) := Lib.hid (by
          refine ⟨HQ1.out, ?_⟩
          rw [← HO.out, texts_else (by decide) (.inr (List.eq_nil_of_length_eq_zero h0))])
        clear x1 h0
        go_wp2_with fail
        go_ret2
        exact HX.out
      · have g0 : (ks.length == 0) = false := by simpa using h0
        have g1 : ((ks.length : Int) == 0) = false := by rw [beq_eq_false_iff_ne]; omega
        have hpos : 0 < ks.length := by omega
        clear x1 h0
        go_wp2_with fail
        clear x0 x3 g0 g1
        go_loopg [4, 5] (ks.length + 1) (fun gk v i wx => ∃ (q : Nat) (l : List Txt), gk = ks.length - q + 1 ∧ q ≤ ks.length ∧ i = .int .i64 (q : Int) ∧ l.length = q ∧ Hid (l = (ks.take q).map (·.text)) ∧ Hid (∀ m, m < q → (gK ks m).kind = 5) ∧ Hid (OwnTx W1.heap.size wx v l) ∧ Hid (Q W1 wx))
        case atStart => exact ⟨0, [], rfl, by omega, rfl, rfl, Lib.hid rfl, Lib.hid (fun m h => by omega), Lib.hid (World.ownsRow_nil _ _ _ _), Lib.hid (Q.refl W1)⟩
        case round =>
          obtain ⟨q, l, rfl, hq, rfl, hlq, HL, HI, HOw, HQI⟩ := hrel
          rename World => wa
          have HLq := Lib.hid hlq
          obtain ⟨Ak, ck, hvk, hn7, hn8, -⟩ := row_cells HOw.out (by simp)
          rw [hlq] at hvk hn7
          subst hvk
          clear hlq
          obtain ⟨x0, x1, x3⟩ := HXs.out wa HQI.out
          by_cases hlt : q < ks.length
          · have hdq : decide (q < ks.length) = true := by simpa using hlt
            obtain ⟨g, off, un, uk, hA⟩ := HKid.out q hlt
            obtain rfl := hA.a
            obtain ⟨kk, hkk⟩ : ∃ kk, (gK ks q).kind = kk := ⟨_, rfl⟩
            obtain ⟨kt, hkt⟩ : ∃ kt, (gK ks q).text = kt := ⟨_, rfl⟩
            have y0 : wa.cell? ⟨g, off + q * 4, none⟩ = some (.int .i64 kk) := by
              have := (HQ1.out.trans HQI.out).cell (hA.rg 0 _ rfl)
              rw [← hkk]; exact this
            have y1 : wa.cell? ⟨g, off + q * 4 + 1, none⟩ = some (.string ⟨kt.toArray⟩) := by
              have := (HQ1.out.trans HQI.out).cell (hA.rg 1 _ rfl)
              rw [← hkt]; exact this
            have HKK := Lib.hid hkk
            have HKT := Lib.hid hkt
            clear hA hkk hkt x0 x1
            by_cases hk5 : kk = 5
            · subst hk5
              obtain ⟨ti, hi, hz0, hz1, hz2⟩ := info_parts info_str
              have hq6 : Q wa (wa.alloc (.cells #[.string ⟨kt.toArray⟩] 9)) := (Q.refl wa).alloc _
              have hkr := ownsRow_frame HOw.out (fun i _ h => Below.block hq6 i h)
              rw [HLq.out] at hkr
              have ha1 : ∀ j u, ([strV kt] : List Value)[j]? = some u → (wa.alloc (.cells #[.string ⟨kt.toArray⟩] 9)).cell? ((⟨wa.heap.size, 0, none⟩ : Addr).add j) = some u := by
                intro j u hj
                rw [add_off, Nat.zero_add, cell_of_row _ _ _ _ _ _ (heap_alloc_new wa _)]
                simpa [strV] using hj
              have ha2 : ∀ u ∈ ([strV kt] : List Value), u.oneCell' = true := by
                intro u hu; simp at hu; subst hu; rfl
              have HA := Lib.hid (And.intro hkr (And.intro ha1 ha2))
              have HI4 := Lib.hid (And.intro hi (And.intro hz0 (And.intro hz1 hz2)))
              have HBs : Hid (W1.heap.size ≤ (wa.alloc (.cells #[.string ⟨kt.toArray⟩] 9)).heap.size) := Lib.hid (by have := hq6.size; have := HQI.out.size; omega)
              have HQ6 := Lib.hid hq6
              clear hkr ha1 ha2 hi hz0 hz1 hz2 hq6
              go_wp2_with (at_builtin; refine wpList_append_own_at (w := wa.alloc (.cells #[.string ⟨kt.toArray⟩] 9)) rfl (.tmp 35) (.tmp 42) 39 rfl W1.heap.size 9 ti _ 1 16 Tryz.underlying39 HI4.out.1 HI4.out.2.1 HI4.out.2.2.1 HI4.out.2.2.2 rfl (by decide) (.slice Ak q ck) q (l.map strV) rfl HA.out.1 ⟨wa.heap.size, 0, none⟩ 1 1 [strV kt] rfl rfl HA.out.2.1 HA.out.2.2 (by unfold maxLen; omega) (by omega) HBs.out ?_; intro v' w4 hrow hgrow _ hob; have HRow := Lib.hid hrow; have HGrow := Lib.hid hgrow; have HOb := Lib.hid hob; clear hrow hgrow hob)
              have HQn : Hid (Q W1 w4) := Lib.hid (Q.below (HQI.out.trans HQ6.out) ⟨HGrow.out.os, HGrow.out.tape, HGrow.out.output, by have := HGrow.out.size; have := (HQI.out.trans HQ6.out).size; omega, fun i hi => HGrow.out.block i (Nat.lt_of_lt_of_le hi (HQI.out.trans HQ6.out).size) (fun e => by have := (ownsRow_base HOw.out e.symm).1; omega)⟩)
              have HOn : Hid (OwnTx W1.heap.size w4 v' (l ++ [kt])) := Lib.hid (by
                have := HRow.out
                unfold OwnTx
                rw [List.length_append, HLq.out, List.map_append]; exact this)
              clear x3 y0 y1
              go_roundg (ks.length - (q + 1) + 1)
              case measure => omega
              case rel => exact ⟨q + 1, l ++ [kt], rfl, by omega, by simp, by rw [List.length_append, HLq.out]; rfl, Lib.hid (by rw [gK_take ks q hlt, List.map_append, ← HL.out, List.map_cons, List.map_nil, HKT.out]), Lib.hid (fun m hm => by
                by_cases h : m < q
                · exact HI.out m h
                · rw [show m = q by omega]; exact HKK.out), HOn, HQn⟩
            · have gk : (kk != 5) = true := by simpa using hk5
              have HX : Hid (RTxP o w (.returned (.tuple #[.slice none 0 0, .bool false])) wa) := Lib.hid (by
                refine ⟨HQ1.out.trans HQI.out, ?_⟩
                rw [← HO.out, texts_bad hlt (by rw [HKK.out]; exact hk5)])
              clear y1 hk5
              go_wp2_with fail
              go_ret2
              exact HX.out
          · have hdq : decide (q < ks.length) = false := by simpa using hlt
            have he : q = ks.length := by omega
            have HX : Hid (RTxP o w (.returned (.tuple #[.slice Ak q ck, .bool true])) wa) := Lib.hid (by
              refine ⟨HQ1.out.trans HQI.out, ?_⟩
              rw [← HO.out, texts_good hpos (fun i hi => HI.out i (by omega))]
              refine ⟨_, rfl, ?_⟩
              have hns := OwnTx.nst HOw.out
              rw [HL.out, he, List.take_of_length_le (Nat.le_refl _)] at hns
              rw [he]
              exact hns)
            clear x0 x1 hlt he
            go_wp2_with fail
            go_ret2
            exact HX.out
    · have g6 : (k != 6) = true := by simpa using h6
      have HX : Hid (RTxP o w (.returned (.tuple #[.slice none 0 0, .bool false])) W1) := Lib.hid (by
        refine ⟨HQ1.out, ?_⟩
        rw [← HO.out, texts_else h5 (.inl h6)])
      clear x1 x3 h5 h6
      go_wp2_with fail
      go_ret2
      exact HX.out
end Go.Proofs.YtlhhiiemojhjdaaGreatDoor
