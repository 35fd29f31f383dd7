/- Texts of this proof, laid into one: PpD. -/
import Derived.Test.YtlhhiiemojhjdaaGreatDoorMt21
set_option linter.unusedVariables false
set_option linter.unusedSimpArgs false
namespace Go.Proofs.YtlhhiiemojhjdaaGreatDoor
open Go Go.RowKit
def RStP (o : Option StmtD) (w : World) (e : Ending) (w' : World) : Prop := Q w w' ∧ ∃ al v1 v2 v3, e = .returned (.tuple #[.agg #[.bool al, v1, v2, v3], .bool o.isSome]) ∧ SlF v1 ∧ SlF v2 ∧ SlF v3 ∧ ∀ s, o = some s → al = s.allow ∧ NsT w' v1 s.who ∧ NsT w' v2 s.acts ∧ NsT w' v3 s.ress
structure RSt (w : World) (B : Nat) (j : JsonD) (vn vk : Value) (al : Bool) (v1 v2 v3 : Value) (W : World) : Prop where
  q : Q w W
  b0 : w.heap.size = B
  r0 : W.heap[B]? = some (.cells (cellJ j vn vk).toArray 46 (0, 0))
  r1 : W.heap[B + 1]? = some (.cells #[.bool false, .slice none 0 0, .slice none 0 0, .slice none 0 0] 41 (0, 0))
  r2 : W.heap[B + 2]? = some (.cells #[.bool al, v1, v2, v3] 41 (0, 0))
theorem RSt.grow {w : World} {B : Nat} {j : JsonD} {vn vk : Value} {al : Bool} {v1 v2 v3 : Value} {W W' : World} (h : RSt w B j vn vk al v1 v2 v3 W) (hq : Q W W') : RSt w B j vn vk al v1 v2 v3 W' :=
  ⟨h.q.trans hq, h.b0, hq.block h.r0, hq.block h.r1, hq.block h.r2⟩
theorem RSt.cells {w : World} {B : Nat} {j : JsonD} {vn vk : Value} {al : Bool} {v1 v2 v3 : Value} {W : World} (h : RSt w B j vn vk al v1 v2 v3 W) : W.cell? ⟨B + 2, 0, none⟩ = some (.bool al) ∧ W.cell? ⟨B + 2, 1, none⟩ = some v1 ∧ W.cell? ⟨B + 2, 2, none⟩ = some v2 ∧ W.cell? ⟨B + 2, 3, none⟩ = some v3 := by
  refine ⟨?_, ?_, ?_, ?_⟩ <;> (rw [cell_of_row _ _ _ _ _ _ h.r2]; rfl)
theorem RSt.fz {w : World} {B : Nat} {j : JsonD} {vn vk : Value} {al : Bool} {v1 v2 v3 : Value} {W : World} (h : RSt w B j vn vk al v1 v2 v3 W) (i : Nat) : W.frozen? ⟨B + 2, i, none⟩ = false := frozen_of_row W (B + 2) i _ _ h.r2
theorem RSt.set {w : World} {B : Nat} {j : JsonD} {vn vk : Value} {al : Bool} {v1 v2 v3 : Value} {W : World} (h : RSt w B j vn vk al v1 v2 v3 W) (i : Nat) (u : Value) (al' : Bool) (u1 u2 u3 : Value) (he : (#[.bool al, v1, v2, v3] : Array Value).setIfInBounds i u = #[.bool al', u1, u2, u3]) : RSt w B j vn vk al' u1 u2 u3 (W.setCell ⟨B + 2, i, none⟩ u) := by
  have hb := h.b0
  refine ⟨h.q.setNew (p := ⟨B + 2, i, none⟩) (by show w.heap.size ≤ B + 2; omega) u, h.b0, ?_, ?_, ?_⟩
  · rw [heap_setCell_other W ⟨B + 2, i, none⟩ B _ (by show B ≠ B + 2; omega)]; exact h.r0
  · rw [heap_setCell_other W ⟨B + 2, i, none⟩ (B + 1) _ (by show B + 1 ≠ B + 2; omega)]; exact h.r1
  · rw [heap_setCell_any W (B + 2) i _ _ _ _ h.r2, he]
theorem stm_one (al : Bool) {v1 v2 v3 : Value} (h1 : SlF v1) (h2 : SlF v2) (h3 : SlF v3) : (#[.bool al, v1, v2, v3] : Array Value).all (·.oneCell') = true := by
  obtain ⟨_, _, _, rfl⟩ := h1
  obtain ⟨_, _, _, rfl⟩ := h2
  obtain ⟨_, _, _, rfl⟩ := h3
  simp [Value.oneCell']
theorem RSt.out {w : World} {B : Nat} {j : JsonD} {vn vk : Value} {al : Bool} {v1 v2 v3 : Value} {W : World} {o : Option StmtD} (h : RSt w B j vn vk al v1 v2 v3 W) (ho : o = none) (h1 : SlF v1) (h2 : SlF v2) (h3 : SlF v3) :
    RStP o w (.returned (.tuple #[.agg #[.bool al, v1, v2, v3], .bool false])) (W.setRow (B + 1) #[.bool al, v1, v2, v3]) := by
  have hb := h.b0
  subst ho
  exact ⟨h.q.setRow (g := B + 1) (by omega) _, al, v1, v2, v3, rfl, h1, h2, h3, fun s hs => by cases hs⟩
theorem st_no {j : JsonD} (h : isTextJ (getJ j nSid) false [] = false ∨ isTextJ (getJ j nEffect) true [nAllow, nDeny] = false ∨ whoJ (getJ j nPrincipal) = none ∨ (getJ j nAction).bind textsJ = none ∨ (getJ j nResource).bind textsJ = none) : stmtJ j = none := by
  unfold stmtJ
  split
  · next hc =>
    simp only [Bool.and_eq_true] at hc
    rcases h with h | h | h | h | h
    · rw [h] at hc; exact absurd hc.1.2 (by decide)
    · rw [h] at hc; exact absurd hc.2 (by decide)
    · rw [h]
    · rw [h]; split <;> simp_all
    · rw [h]; split <;> simp_all
  · rfl
theorem st_yes {j : JsonD} {a b c : List Txt} (h1 : onlyJ j fiveN = true) (h2 : isTextJ (getJ j nSid) false [] = true) (h3 : isTextJ (getJ j nEffect) true [nAllow, nDeny] = true) (h4 : whoJ (getJ j nPrincipal) = some a) (h5 : (getJ j nAction).bind textsJ = some b) (h6 : (getJ j nResource).bind textsJ = some c) :
    stmtJ j = some ⟨decide (((getJ j nEffect).map (·.text)) = some nAllow), a, b, c⟩ := by
  unfold stmtJ
  rw [if_pos (by rw [show onlyJ j [nSid, nEffect, nPrincipal, nAction, nResource] = true from h1, h2, h3]; rfl), h4, h5, h6]
theorem only_kind7 {j : JsonD} {l : List Txt} (h : onlyJ j l = true) : j.kind = 7 := by
  unfold onlyJ at h
  simp only [Bool.and_eq_true, decide_eq_true_eq] at h
  exact h.1.1
theorem who_none {f : JsonD} (h : ¬ (f.kind = 5 ∧ f.text = [42])) (ho : onlyJ f [nAWS] = false) : whoJ (some f) = none := by
  unfold whoJ
  simp only
  rw [if_neg h, if_neg (by rw [ho]; decide)]
theorem who_len {k : Int} {t : Txt} {ns : List Txt} {ks : List JsonD} (h : ¬ (k = 5 ∧ t = [42])) (ho : onlyJ (.mk k t ns ks) [nAWS] = true) (hn : ns.length ≠ 1) : whoJ (some (.mk k t ns ks)) = none := by
  have h7 := ho
  unfold onlyJ at h7
  simp only [Bool.and_eq_true, decide_eq_true_eq, List.all_eq_true] at h7
  obtain ⟨⟨_, h1⟩, h2⟩ := h7
  have h1 : ns.Nodup := h1
  have h2 : ∀ x ∈ ns, x ∈ [nAWS] := h2
  have h0 : ns = [] := by
    match ns, h1, h2, hn with
    | [], _, _, _ => rfl
    | [a], _, _, hn => exact absurd rfl hn
    | a :: b :: r, h1, h2, _ =>
      exfalso
      have e1 : a = nAWS := by simpa using h2 a (by simp)
      have e2 : b = nAWS := by simpa using h2 b (by simp)
      rw [List.nodup_cons] at h1
      exact h1.1 (by rw [e1, e2]; simp)
  subst h0
  unfold whoJ
  simp only
  rw [if_neg (show ¬ (JsonD.kind (.mk k t [] ks) = 5 ∧ JsonD.text (.mk k t [] ks) = [42]) from h), if_pos ho]
  rfl
theorem who_one {k : Int} {t : Txt} {ns : List Txt} {ks : List JsonD} (h : ¬ (k = 5 ∧ t = [42])) (ho : onlyJ (.mk k t ns ks) [nAWS] = true) (hn : ns.length = 1) (hl : ns.length = ks.length) : whoJ (some (.mk k t ns ks)) = textsJ (gK ks 0) := by
  have h7 := ho
  unfold onlyJ at h7
  simp only [Bool.and_eq_true, decide_eq_true_eq, List.all_eq_true] at h7
  obtain ⟨⟨_, h1⟩, h2⟩ := h7
  have h2 : ∀ x ∈ ns, x ∈ [nAWS] := h2
  match ns, ks, hn, hl, h2 with
  | [a], [q], _, _, h2 =>
    have e1 : a = nAWS := by simpa using h2 a (by simp)
    subst e1
    unfold whoJ
    simp only
    rw [if_neg (show ¬ (JsonD.kind (.mk k t [nAWS] [q]) = 5 ∧ JsonD.text (.mk k t [nAWS] [q]) = [42]) from h), if_pos ho]
    rfl
theorem wf_objn {k : Int} {t : Txt} {ns : List Txt} {ks : List JsonD} {l : List Txt} (hr : rtB (.mk k t ns ks) 20 8000 = true) (ho : onlyJ (.mk k t ns ks) l = true) : ns.length = ks.length := by
  have h7 : k = 7 := only_kind7 ho
  subst h7
  exact wf_obj (rt_wf hr).1
theorem who_star {f : JsonD} (h : f.kind = 5 ∧ f.text = [42]) : whoJ (some f) = some [[42]] := by
  unfold whoJ
  simp only
  rw [if_pos h]
set_option maxRecDepth 100000 in
set_option maxHeartbeats 16000000 in
theorem rstatement_any (j : JsonD) (w : World) (vn vk : Value) (hj : JV w j vn vk) (hr : rtB j 20 8000 = true) (hb : bigJ 9223372036854775807 j) :
    Calls Tryz.prog 15 #[.agg (cellJ j vn vk).toArray] w (RStP (stmtJ j) w) := by
  obtain ⟨⟨A1, n1, c1, rfl⟩, ⟨A2, n2, c2, rfl⟩⟩ := jv_slices hj
  obtain ⟨o, ho⟩ : ∃ o, stmtJ j = o := ⟨_, rfl⟩
  have HO := Lib.hid ho
  rw [ho]
  have HJ := Lib.hid hj
  have HRt := Lib.hid hr
  have HBig := Lib.hid hb
  have HSj := Lib.hid (info_sz j (.slice A1 n1 c1) (.slice A2 n2 c2))
  clear hj hr hb ho
  go_enter Tryz.func15, Tryz.ntmps15
  go_upto_region 2 with (fail)
  obtain ⟨B, hB⟩ : ∃ B, w.heap.size = B := ⟨_, rfl⟩
  obtain ⟨W0, hW0⟩ : ∃ W0, ((w.alloc (.cells (cellJ j (.slice A1 n1 c1) (.slice A2 n2 c2)).toArray 46)).alloc (.cells #[.bool false, .slice none 0 0, .slice none 0 0, .slice none 0 0] 41)).alloc (.cells #[.bool false, .slice none 0 0, .slice none 0 0, .slice none 0 0] 41) = W0 := ⟨_, rfl⟩
  have S0 : Hid (RSt w B j (.slice A1 n1 c1) (.slice A2 n2 c2) false (.slice none 0 0) (.slice none 0 0) (.slice none 0 0) W0) := Lib.hid (by
    rw [← hW0, ← hB]
    refine ⟨(((Q.refl w).alloc _).alloc _).alloc _, rfl, ?_, ?_, ?_⟩
    · exact Q.block (((Q.refl _).alloc _).alloc _) (heap_alloc_new w _)
    · have h := heap_alloc_new (w.alloc (.cells (cellJ j (.slice A1 n1 c1) (.slice A2 n2 c2)).toArray 46)) (.cells #[.bool false, .slice none 0 0, .slice none 0 0, .slice none 0 0] 41)
      have e : (w.alloc (.cells (cellJ j (.slice A1 n1 c1) (.slice A2 n2 c2)).toArray 46)).heap.size = w.heap.size + 1 := by simp
      rw [e] at h
      exact Q.block ((Q.refl _).alloc _) h
    · have h := heap_alloc_new ((w.alloc (.cells (cellJ j (.slice A1 n1 c1) (.slice A2 n2 c2)).toArray 46)).alloc (.cells #[.bool false, .slice none 0 0, .slice none 0 0, .slice none 0 0] 41)) (.cells #[.bool false, .slice none 0 0, .slice none 0 0, .slice none 0 0] 41)
      have e : ((w.alloc (.cells (cellJ j (.slice A1 n1 c1) (.slice A2 n2 c2)).toArray 46)).alloc (.cells #[.bool false, .slice none 0 0, .slice none 0 0, .slice none 0 0] 41)).heap.size = w.heap.size + 2 := by simp
      rw [e] at h
      exact h)
  rw [hW0, hB]
  clear hW0 hB
  have HC : Hid (Calls Tryz.prog 13 #[.agg (cellJ j (.slice A1 n1 c1) (.slice A2 n2 c2)).toArray, .slice (some ⟨W0.heap.size, 0, none⟩) 5 5] (W0.alloc (.cells (fiveN.map strV).toArray 9)) fun e w' => e = .returned (.bool (onlyJ j fiveN)) ∧ Q (W0.alloc (.cells (fiveN.map strV).toArray 9)) w') := Lib.hid (ronly_any j fiveN _ _ _ _ (HJ.out.q (S0.out.q.alloc _)) (ns_new W0 fiveN (by decide)))
  have HR0 := Lib.hid S0.out.r0
  go_wp2_with (refine wpList_load_row rfl 46 (.tmp 1) rfl B rfl 46 (cellJ j (.slice A1 n1 c1) (.slice A2 n2 c2)).toArray (0, 0) _ HR0.out Tryz.underlying46 rfl HSj.out ?_)
  refine HC.out.mono ?_
  rintro e W1 ⟨rfl, hq1⟩
  have S1 := Lib.hid (S0.out.grow (((Q.refl W0).alloc _).trans hq1))
  clear hq1 HC HR0 S0
  obtain ⟨o1, ho1⟩ : ∃ o1, onlyJ j fiveN = o1 := ⟨_, rfl⟩
  have HO1 := Lib.hid ho1
  rw [ho1]
  clear ho1
  cases o1 with
  | false =>
    have HX := Lib.hid (S1.out.out (o := o) (by rw [← HO.out]; exact (by obtain ⟨k, t, ns, ks⟩ := j; exact stmt_no k t ns ks HO1.out)) ⟨_, _, _, rfl⟩ ⟨_, _, _, rfl⟩ ⟨_, _, _, rfl⟩)
    have HE := Lib.hid (setRow_at S1.out.r1 (#[.bool false, .slice none 0 0, .slice none 0 0, .slice none 0 0] : Array Value))
    have HZ1 := Lib.hid S1.out.r1
    have HZ2 := Lib.hid S1.out.r2
    have HSz := Lib.hid (info_stmt (.slice none 0 0) (.slice none 0 0) (.slice none 0 0) false)
    have HOne := Lib.hid (stm_one false (v1 := .slice none 0 0) (v2 := .slice none 0 0) (v3 := .slice none 0 0) ⟨_, _, _, rfl⟩ ⟨_, _, _, rfl⟩ ⟨_, _, _, rfl⟩)
    go_wp2_with (first | refine wpList_load_row rfl 41 (.tmp 4) rfl (B + 2) rfl 41 #[.bool false, .slice none 0 0, .slice none 0 0, .slice none 0 0] (0, 0) _ HZ2.out Tryz.underlying41 rfl HSz.out ?_ | refine wpList_store_row rfl 41 (.tmp 2) (.tmp 18) rfl (B + 1) #[.bool false, .slice none 0 0, .slice none 0 0, .slice none 0 0] rfl rfl 41 _ HZ1.out HSz.out rfl HOne.out ?_)
    exact bodyPost_ret (results_stmt (p := 2) (q := 3) rfl (by rfl) HE.out) rfl HX.out
  | true =>
    have HK7 := Lib.hid (only_kind7 HO1.out)
    have HC : Hid (Calls Tryz.prog 14 #[.agg (cellJ j (.slice A1 n1 c1) (.slice A2 n2 c2)).toArray, .string ⟨#[83, 105, 100]⟩] W1 (RFindP j nSid W1)) := Lib.hid (rFind_any j nSid W1 _ _ (HJ.out.q S1.out.q) HBig.out)
    have HR0 := Lib.hid S1.out.r0
    go_wp2_with (refine wpList_load_row rfl 46 (.tmp 1) rfl B rfl 46 (cellJ j (.slice A1 n1 c1) (.slice A2 n2 c2)).toArray (0, 0) _ HR0.out Tryz.underlying46 rfl HSj.out ?_)
    refine HC.out.mono ?_
    rintro e X1 ⟨fn, fk, rfl, hjf, hqf⟩
    obtain ⟨⟨P1, p1, q1, rfl⟩, ⟨R1, r1, s1, rfl⟩⟩ := jv_slices hjf
    have HG1 := Lib.hid (find_get (x := nSid) HK7.out HRt.out)
    have HFr1 := Lib.hid (fun h => found_right (j := j) (x := nSid) h)
    obtain ⟨⟨F1, t1⟩, hF1⟩ : ∃ F, findJ j nSid = F := ⟨_, rfl⟩
    rw [hF1] at hjf HG1 HFr1 ⊢
    have HSf := Lib.hid (info_sz F1 (.slice P1 p1 q1) (.slice R1 r1 s1))
    have HOf := Lib.hid (cellJ_one (j := F1) (un := .slice P1 p1 q1) (uk := .slice R1 r1 s1) ⟨_, _, _, rfl⟩ ⟨_, _, _, rfl⟩)
    have HJf := Lib.hid hjf
    have HQf := Lib.hid hqf
    clear hF1 hjf hqf HC HR0
    go_upto_region 6 with (refine wpList_store_row rfl 46 (.tmp 6) (.tmp 22) rfl X1.heap.size (cellJ F1 (.slice P1 p1 q1) (.slice R1 r1 s1)).toArray rfl rfl 46 _ (heap_alloc_new X1 _) HSf.out rfl HOf.out ?_)
    obtain ⟨W2, hW⟩ : ∃ W, (X1.alloc (.cells #[.int .i64 0, .string ⟨#[]⟩, .slice none 0 0, .slice none 0 0] 46)).setRow X1.heap.size (cellJ F1 (.slice P1 p1 q1) (.slice R1 r1 s1)).toArray = W := ⟨_, rfl⟩
    have hk : W2.heap[X1.heap.size]? = some (.cells (cellJ F1 (.slice P1 p1 q1) (.slice R1 r1 s1)).toArray 46 (0, 0)) := by rw [← hW]; exact setRow_at (heap_alloc_new X1 _) _
    have hqx : Q X1 W2 := by rw [← hW]; exact ((Q.refl X1).alloc _).setRow (Nat.le_refl _) _
    rw [hW]
    obtain ⟨f1, hf⟩ : ∃ f, X1.heap.size = f := ⟨_, rfl⟩
    rw [hf] at hk ⊢
    have S2 := Lib.hid (S1.out.grow (HQf.out.trans hqx))
    have HRow1 := Lib.hid hk
    have HJ1 := Lib.hid (HJf.out.q hqx)
    have HStep1 := Lib.hid (HQf.out.trans hqx)
    clear hW hk hqx hf HSf HOf HJf HQf
    have x0 : W2.cell? ⟨f1, 0, none⟩ = some (.int .i64 F1.kind) := by rw [cell_of_row _ _ _ _ _ _ HRow1.out]; rfl
    by_cases hs1 : t1 = true ∧ F1.kind ≠ 5
    · obtain ⟨rfl, hk5⟩ := hs1
      have g5 : (F1.kind != 5) = true := by simpa using hk5
      have hno : stmtJ j = none := st_no (.inl (by rw [HG1.out, if_pos rfl, isText_some]; simp [hk5]))
      have HNo := Lib.hid hno
      clear hno hk5
      have HX := Lib.hid (S2.out.out (o := o) (by rw [← HO.out]; exact HNo.out) ⟨_, _, _, rfl⟩ ⟨_, _, _, rfl⟩ ⟨_, _, _, rfl⟩)
      have HE := Lib.hid (setRow_at S2.out.r1 (#[.bool false, .slice none 0 0, .slice none 0 0, .slice none 0 0] : Array Value))
      have HZ1 := Lib.hid S2.out.r1
      have HZ2 := Lib.hid S2.out.r2
      have HSz := Lib.hid (info_stmt (.slice none 0 0) (.slice none 0 0) (.slice none 0 0) false)
      have HOne := Lib.hid (stm_one false (v1 := .slice none 0 0) (v2 := .slice none 0 0) (v3 := .slice none 0 0) ⟨_, _, _, rfl⟩ ⟨_, _, _, rfl⟩ ⟨_, _, _, rfl⟩)
      go_wp2_with (first | refine wpList_load_row rfl 41 (.tmp 4) rfl (B + 2) rfl 41 #[.bool false, .slice none 0 0, .slice none 0 0, .slice none 0 0] (0, 0) _ HZ2.out Tryz.underlying41 rfl HSz.out ?_ | refine wpList_store_row rfl 41 (.tmp 2) (.tmp 30) rfl (B + 1) #[.bool false, .slice none 0 0, .slice none 0 0, .slice none 0 0] rfl rfl 41 _ HZ1.out HSz.out rfl HOne.out ?_)
      exact bodyPost_ret (results_stmt (p := 2) (q := 3) rfl (by rfl) HE.out) rfl HX.out
    · have HSid : Hid (isTextJ (getJ j nSid) false [] = true) := Lib.hid (by
        rw [HG1.out]
        cases t1 with
        | false => rfl
        | true =>
          rw [if_pos rfl, isText_some]
          have : F1.kind = 5 := by
            by_cases h : F1.kind = 5
            · exact h
            · exact absurd ⟨rfl, h⟩ hs1
          simp [this])
      go_cut [29] (fun v wx => v = .bool false ∧ W2 = wx)
      case first =>
        cases t1 with
        | false =>
          go_wp2_with fail
          go_meet
          exact ⟨rfl, rfl⟩
        | true =>
          have hk5 : F1.kind = 5 := by
            by_cases h : F1.kind = 5
            · exact h
            · exact absurd ⟨rfl, h⟩ hs1
          have g5 : (F1.kind != 5) = false := by simpa using hk5
          clear hs1 hk5
          go_wp2_with fail
          go_meet
          exact ⟨rfl, rfl⟩
      case rest =>
        obtain ⟨rfl, rfl⟩ := hcut
        clear x0 hs1
        have HC : Hid (Calls Tryz.prog 14 #[.agg (cellJ j (.slice A1 n1 c1) (.slice A2 n2 c2)).toArray, .string ⟨#[69, 102, 102, 101, 99, 116]⟩] W2 (RFindP j nEffect W2)) := Lib.hid (rFind_any j nEffect W2 _ _ (HJ.out.q S2.out.q) HBig.out)
        have HR0 := Lib.hid S2.out.r0
        go_wp2_with (refine wpList_load_row rfl 46 (.tmp 1) rfl B rfl 46 (cellJ j (.slice A1 n1 c1) (.slice A2 n2 c2)).toArray (0, 0) _ HR0.out Tryz.underlying46 rfl HSj.out ?_)
        refine HC.out.mono ?_
        rintro e X2 ⟨fn, fk, rfl, hjf, hqf⟩
        obtain ⟨⟨P2, p2, q2, rfl⟩, ⟨R2, r2, s2, rfl⟩⟩ := jv_slices hjf
        have HG2 := Lib.hid (find_get (x := nEffect) HK7.out HRt.out)
        have HFr2 := Lib.hid (fun h => found_right (j := j) (x := nEffect) h)
        obtain ⟨⟨F2, t2⟩, hF2⟩ : ∃ F, findJ j nEffect = F := ⟨_, rfl⟩
        rw [hF2] at hjf HG2 HFr2 ⊢
        have HSf := Lib.hid (info_sz F2 (.slice P2 p2 q2) (.slice R2 r2 s2))
        have HOf := Lib.hid (cellJ_one (j := F2) (un := .slice P2 p2 q2) (uk := .slice R2 r2 s2) ⟨_, _, _, rfl⟩ ⟨_, _, _, rfl⟩)
        have HJf := Lib.hid hjf
        have HQf := Lib.hid hqf
        clear hF2 hjf hqf HC HR0
        go_upto_region 9 with (refine wpList_store_row rfl 46 (.tmp 8) (.tmp 34) rfl X2.heap.size (cellJ F2 (.slice P2 p2 q2) (.slice R2 r2 s2)).toArray rfl rfl 46 _ (heap_alloc_new X2 _) HSf.out rfl HOf.out ?_)
        obtain ⟨W3, hW⟩ : ∃ W, (X2.alloc (.cells #[.int .i64 0, .string ⟨#[]⟩, .slice none 0 0, .slice none 0 0] 46)).setRow X2.heap.size (cellJ F2 (.slice P2 p2 q2) (.slice R2 r2 s2)).toArray = W := ⟨_, rfl⟩
        have hk : W3.heap[X2.heap.size]? = some (.cells (cellJ F2 (.slice P2 p2 q2) (.slice R2 r2 s2)).toArray 46 (0, 0)) := by rw [← hW]; exact setRow_at (heap_alloc_new X2 _) _
        have hqx : Q X2 W3 := by rw [← hW]; exact ((Q.refl X2).alloc _).setRow (Nat.le_refl _) _
        rw [hW]
        obtain ⟨f2, hf⟩ : ∃ f, X2.heap.size = f := ⟨_, rfl⟩
        rw [hf] at hk ⊢
        have S3 := Lib.hid (S2.out.grow (HQf.out.trans hqx))
        have HRow2 := Lib.hid hk
        have HJ2 := Lib.hid (HJf.out.q hqx)
        have HStep2 := Lib.hid (HQf.out.trans hqx)
        clear hW hk hqx hf HSf HOf HJf HQf
        have x0 : W3.cell? ⟨f2, 0, none⟩ = some (.int .i64 F2.kind) := by rw [cell_of_row _ _ _ _ _ _ HRow2.out]; rfl
        have x1 : W3.cell? ⟨f2, 1, none⟩ = some (.string ⟨F2.text.toArray⟩) := by rw [cell_of_row _ _ _ _ _ _ HRow2.out]; rfl
        obtain ⟨ft, hft⟩ : ∃ ft, F2.text = ft := ⟨_, rfl⟩
        have HFt := Lib.hid hft
        rw [hft] at x1
        clear hft
        go_cut [52] (fun v wx => ∃ c : Bool, v = .bool c ∧ W3 = wx ∧ Hid (isTextJ (getJ j nEffect) true [nAllow, nDeny] = !c) ∧ Hid (c = false → t2 = true))
        case first =>
          cases t2 with
          | false =>
            have HX : Hid (isTextJ (getJ j nEffect) true [nAllow, nDeny] = !true) := Lib.hid (by rw [HG2.out]; rfl)
            clear x0 x1
            go_wp2_with fail
            go_meet
            exact ⟨true, rfl, rfl, HX, Lib.hid (by simp)⟩
          | true =>
            by_cases hk5 : F2.kind = 5
            · have g5 : (F2.kind != 5) = false := by simpa using hk5
              by_cases hA : ft = nAllow
              · have gA : (ft == [65, 108, 108, 111, 119]) = true := by rw [hA]; decide
                have HX : Hid (isTextJ (getJ j nEffect) true [nAllow, nDeny] = !false) := Lib.hid (by
                  rw [HG2.out, if_pos rfl, isText_some, HFt.out]
                  simp [hk5, hA])
                clear hk5 hA
                go_wp2_with fail
                go_meet
                exact ⟨false, rfl, rfl, HX, Lib.hid (by simp)⟩
              · have gA : (ft == [65, 108, 108, 111, 119]) = false := by rw [beq_eq_false_iff_ne]; exact hA
                by_cases hD : ft = nDeny
                · have gD : (ft == [68, 101, 110, 121]) = true := by rw [hD]; decide
                  have HX : Hid (isTextJ (getJ j nEffect) true [nAllow, nDeny] = !false) := Lib.hid (by
                    rw [HG2.out, if_pos rfl, isText_some, HFt.out]
                    simp [hk5, hD])
                  clear hk5 hA hD
                  go_wp2_with fail
                  go_meet
                  exact ⟨false, rfl, rfl, HX, Lib.hid (by simp)⟩
                · have gD : (ft == [68, 101, 110, 121]) = false := by rw [beq_eq_false_iff_ne]; exact hD
                  have HX : Hid (isTextJ (getJ j nEffect) true [nAllow, nDeny] = !true) := Lib.hid (by
                    rw [HG2.out, if_pos rfl, isText_some, HFt.out]
                    simp [hk5, hA, hD])
                  clear hk5 hA hD
                  go_wp2_with fail
                  go_meet
                  exact ⟨true, rfl, rfl, HX, Lib.hid (by simp)⟩
            · have g5 : (F2.kind != 5) = true := by simpa using hk5
              have HX : Hid (isTextJ (getJ j nEffect) true [nAllow, nDeny] = !true) := Lib.hid (by
                rw [HG2.out, if_pos rfl, isText_some]
                simp [hk5])
              clear hk5 x1
              go_wp2_with fail
              go_meet
              exact ⟨true, rfl, rfl, HX, Lib.hid (by simp)⟩
        case rest =>
          obtain ⟨c, rfl, rfl, HIs, HT2⟩ := hcut
          cases c with
          | true =>
            clear x0 x1
            have HX := Lib.hid (S3.out.out (o := o) (by rw [← HO.out]; exact (st_no (.inr (.inl HIs.out)))) ⟨_, _, _, rfl⟩ ⟨_, _, _, rfl⟩ ⟨_, _, _, rfl⟩)
            have HE := Lib.hid (setRow_at S3.out.r1 (#[.bool false, .slice none 0 0, .slice none 0 0, .slice none 0 0] : Array Value))
            have HZ1 := Lib.hid S3.out.r1
            have HZ2 := Lib.hid S3.out.r2
            have HSz := Lib.hid (info_stmt (.slice none 0 0) (.slice none 0 0) (.slice none 0 0) false)
            have HOne := Lib.hid (stm_one false (v1 := .slice none 0 0) (v2 := .slice none 0 0) (v3 := .slice none 0 0) ⟨_, _, _, rfl⟩ ⟨_, _, _, rfl⟩ ⟨_, _, _, rfl⟩)
            go_wp2_with (first | refine wpList_load_row rfl 41 (.tmp 4) rfl (B + 2) rfl 41 #[.bool false, .slice none 0 0, .slice none 0 0, .slice none 0 0] (0, 0) _ HZ2.out Tryz.underlying41 rfl HSz.out ?_ | refine wpList_store_row rfl 41 (.tmp 2) (.tmp 53) rfl (B + 1) #[.bool false, .slice none 0 0, .slice none 0 0, .slice none 0 0] rfl rfl 41 _ HZ1.out HSz.out rfl HOne.out ?_)
            exact bodyPost_ret (results_stmt (p := 2) (q := 3) rfl (by rfl) HE.out) rfl HX.out
          | false =>
            have ht2 := HT2.out rfl
            subst ht2
            obtain ⟨z0, -, -, -⟩ := S3.out.cells
            have zf := S3.out.fz 0
            go_upto_region 12 with (fail)
            obtain ⟨al, hal⟩ : ∃ al, (ft == [65, 108, 108, 111, 119]) = al := ⟨_, rfl⟩
            rw [hal]
            have HAl : Hid (decide (((getJ j nEffect).map (·.text)) = some nAllow) = al) := Lib.hid (by
              rw [← hal, HG2.out, if_pos rfl]
              show decide (some F2.text = some nAllow) = _
              rw [HFt.out, Bool.eq_iff_iff]
              simp only [decide_eq_true_eq, beq_iff_eq, Option.some.injEq]
              exact Iff.rfl)
            obtain ⟨W4, hW4⟩ : ∃ W4, W3.setCell ⟨B + 2, 0, none⟩ (.bool al) = W4 := ⟨_, rfl⟩
            rw [hW4]
            have S4 : Hid (RSt w B j (.slice A1 n1 c1) (.slice A2 n2 c2) al (.slice none 0 0) (.slice none 0 0) (.slice none 0 0) W4) := Lib.hid (by rw [← hW4]; exact S3.out.set 0 _ al _ _ _ rfl)
            clear x0 x1 z0 zf hal hW4
            have HC : Hid (Calls Tryz.prog 14 #[.agg (cellJ j (.slice A1 n1 c1) (.slice A2 n2 c2)).toArray, .string ⟨#[80, 114, 105, 110, 99, 105, 112, 97, 108]⟩] W4 (RFindP j nPrincipal W4)) := Lib.hid (rFind_any j nPrincipal W4 _ _ (HJ.out.q S4.out.q) HBig.out)
            have HR0 := Lib.hid S4.out.r0
            go_wp2_with (refine wpList_load_row rfl 46 (.tmp 1) rfl B rfl 46 (cellJ j (.slice A1 n1 c1) (.slice A2 n2 c2)).toArray (0, 0) _ HR0.out Tryz.underlying46 rfl HSj.out ?_)
            refine HC.out.mono ?_
            rintro e X3 ⟨fn, fk, rfl, hjf, hqf⟩
            obtain ⟨⟨P3, p3, q3, rfl⟩, ⟨R3, r3, s3, rfl⟩⟩ := jv_slices hjf
            have HG3 := Lib.hid (find_get (x := nPrincipal) HK7.out HRt.out)
            have HFr3 := Lib.hid (fun h => found_right (j := j) (x := nPrincipal) h)
            obtain ⟨⟨F3, t3⟩, hF3⟩ : ∃ F, findJ j nPrincipal = F := ⟨_, rfl⟩
            rw [hF3] at hjf HG3 HFr3 ⊢
            have HSf := Lib.hid (info_sz F3 (.slice P3 p3 q3) (.slice R3 r3 s3))
            have HOf := Lib.hid (cellJ_one (j := F3) (un := .slice P3 p3 q3) (uk := .slice R3 r3 s3) ⟨_, _, _, rfl⟩ ⟨_, _, _, rfl⟩)
            have HJf := Lib.hid hjf
            have HQf := Lib.hid hqf
            clear hF3 hjf hqf HC HR0
            go_upto_region 13 with (refine wpList_store_row rfl 46 (.tmp 9) (.tmp 61) rfl X3.heap.size (cellJ F3 (.slice P3 p3 q3) (.slice R3 r3 s3)).toArray rfl rfl 46 _ (heap_alloc_new X3 _) HSf.out rfl HOf.out ?_)
            obtain ⟨W5, hW⟩ : ∃ W, (X3.alloc (.cells #[.int .i64 0, .string ⟨#[]⟩, .slice none 0 0, .slice none 0 0] 46)).setRow X3.heap.size (cellJ F3 (.slice P3 p3 q3) (.slice R3 r3 s3)).toArray = W := ⟨_, rfl⟩
            have hk : W5.heap[X3.heap.size]? = some (.cells (cellJ F3 (.slice P3 p3 q3) (.slice R3 r3 s3)).toArray 46 (0, 0)) := by rw [← hW]; exact setRow_at (heap_alloc_new X3 _) _
            have hqx : Q X3 W5 := by rw [← hW]; exact ((Q.refl X3).alloc _).setRow (Nat.le_refl _) _
            rw [hW]
            obtain ⟨f3, hf⟩ : ∃ f, X3.heap.size = f := ⟨_, rfl⟩
            rw [hf] at hk ⊢
            have S5 := Lib.hid (S4.out.grow (HQf.out.trans hqx))
            have HRow3 := Lib.hid hk
            have HJ3 := Lib.hid (HJf.out.q hqx)
            have HStep3 := Lib.hid (HQf.out.trans hqx)
            clear hW hk hqx hf HSf HOf HJf HQf
            cases t3 with
            | false =>
              have HX := Lib.hid (S5.out.out (o := o) (by rw [← HO.out]; exact (st_no (.inr (.inr (.inl (by rw [HG3.out]; rfl)))))) ⟨_, _, _, rfl⟩ ⟨_, _, _, rfl⟩ ⟨_, _, _, rfl⟩)
              have HE := Lib.hid (setRow_at S5.out.r1 (#[.bool al, .slice none 0 0, .slice none 0 0, .slice none 0 0] : Array Value))
              have HZ1 := Lib.hid S5.out.r1
              have HZ2 := Lib.hid S5.out.r2
              have HSz := Lib.hid (info_stmt (.slice none 0 0) (.slice none 0 0) (.slice none 0 0) al)
              have HOne := Lib.hid (stm_one al (v1 := .slice none 0 0) (v2 := .slice none 0 0) (v3 := .slice none 0 0) ⟨_, _, _, rfl⟩ ⟨_, _, _, rfl⟩ ⟨_, _, _, rfl⟩)
              go_wp2_with (first | refine wpList_load_row rfl 41 (.tmp 4) rfl (B + 2) rfl 41 #[.bool al, .slice none 0 0, .slice none 0 0, .slice none 0 0] (0, 0) _ HZ2.out Tryz.underlying41 rfl HSz.out ?_ | refine wpList_store_row rfl 41 (.tmp 2) (.tmp 65) rfl (B + 1) #[.bool al, .slice none 0 0, .slice none 0 0, .slice none 0 0] rfl rfl 41 _ HZ1.out HSz.out rfl HOne.out ?_)
              exact bodyPost_ret (results_stmt (p := 2) (q := 3) rfl (by rfl) HE.out) rfl HX.out
            | true =>
              obtain ⟨k3, x3t, ns3, ks3⟩ := F3
              have hns3 := HJ3.out
              rw [JV] at hns3
              obtain ⟨PA, pc, hpe, -, -, -⟩ := hns3.1.at
              injection hpe with e1 e2 e3
              subst e1 e2 e3
              obtain ⟨RA, rc, hre, hrc1, hrc2, hk3⟩ := HJ3.out.kidAt
              injection hre with e1 e2 e3
              subst e1 e2 e3
              have HK3 := Lib.hid hk3
              clear hk3 hns3
              have HR3 : Hid (rtB (.mk k3 x3t ns3 ks3) 20 8000 = true) := Lib.hid (HFr3.out rfl)
              have HW3 : Hid (getJ j nPrincipal = some (.mk k3 x3t ns3 ks3)) := Lib.hid (by rw [HG3.out, if_pos rfl])
              have hk3l : ks3.length ≤ 8000 := by
                have h1 := cnt_len ks3
                have h2 := (rt_wf HR3.out).2
                rw [cntJ] at h2
                omega
              have x0 : W5.cell? ⟨f3, 0, none⟩ = some (.int .i64 k3) := by rw [cell_of_row _ _ _ _ _ _ HRow3.out]; rfl
              have x1 : W5.cell? ⟨f3, 1, none⟩ = some (.string ⟨x3t.toArray⟩) := by rw [cell_of_row _ _ _ _ _ _ HRow3.out]; rfl
              go_upto_region 15 with (fail)
              go_cut [73] (fun v wx => ∃ c : Bool, v = .bool c ∧ W5 = wx ∧ Hid (c = decide (k3 = 5 ∧ x3t = [42])))
              case first =>
                by_cases hk5 : k3 = 5
                · have g5 : (k3 == 5) = true := by simpa using hk5
                  by_cases hs : x3t = [42]
                  · have gs : (x3t == [42]) = true := by simpa using hs
                    have HX : Hid (true = decide (k3 = 5 ∧ x3t = [42])) := Lib.hid (by simp [hk5, hs])
                    clear hk5 hs
                    go_wp2_with fail
                    go_meet
                    exact ⟨true, rfl, rfl, HX⟩
                  · have gs : (x3t == [42]) = false := by simpa using hs
                    have HX : Hid (false = decide (k3 = 5 ∧ x3t = [42])) := Lib.hid (by simp [hs])
                    clear hk5 hs
                    go_wp2_with fail
                    go_meet
                    exact ⟨false, rfl, rfl, HX⟩
                · have g5 : (k3 == 5) = false := by simpa using hk5
                  have HX : Hid (false = decide (k3 = 5 ∧ x3t = [42])) := Lib.hid (by simp [hk5])
                  clear hk5 x1
                  go_wp2_with fail
                  go_meet
                  exact ⟨false, rfl, rfl, HX⟩
              case rest =>
                obtain ⟨c, rfl, rfl, HCc⟩ := hcut
                clear x0 x1
                go_upto_if 73 with (fail)
                go_cut [] (fun wx => ∃ V vc la, Hid (whoJ (getJ j nPrincipal) = some la) ∧ Hid (NsT wx (.slice V la.length vc) la) ∧ Hid (RSt w B j (.slice A1 n1 c1) (.slice A2 n2 c2) al (.slice V la.length vc) (.slice none 0 0) (.slice none 0 0) wx))
                case first =>
                  cases c with
                  | true =>
                    have hst := of_decide_eq_true HCc.out.symm
                    have HWh : Hid (whoJ (getJ j nPrincipal) = some [[42]]) := Lib.hid (by rw [HW3.out]; exact who_star hst)
                    have HGr := Lib.hid (S5.out.grow ((Q.refl W5).alloc (.cells #[.string ⟨#[42]⟩] 9)))
                    obtain ⟨-, z1, -, -⟩ := HGr.out.cells
                    have zf := HGr.out.fz 1
                    have HX := Lib.hid (HGr.out.set 1 (.slice (some ⟨W5.heap.size, 0, none⟩) 1 1) al _ _ _ rfl)
                    have HN := Lib.hid (nst_set (i := 1) (u := .slice (some ⟨W5.heap.size, 0, none⟩) 1 1) (nst_one W5 [42]) HGr.out.r2)
                    clear hst
                    go_wp2_with fail
                    go_meet
                    exact ⟨_, _, [[42]], HWh, HN, HX⟩
                  | false =>
                    have hns : ¬ (k3 = 5 ∧ x3t = [42]) := of_decide_eq_false HCc.out.symm
                    have HNs := Lib.hid hns
                    clear hns
                    have HC : Hid (Calls Tryz.prog 13 #[.agg (cellJ (.mk k3 x3t ns3 ks3) (.slice P3 ns3.length q3) (.slice R3 ks3.length s3)).toArray, .slice (some ⟨W5.heap.size, 0, none⟩) 1 1] (W5.alloc (.cells ([nAWS].map strV).toArray 9)) fun e w' => e = .returned (.bool (onlyJ (.mk k3 x3t ns3 ks3) [nAWS])) ∧ Q (W5.alloc (.cells ([nAWS].map strV).toArray 9)) w') := Lib.hid (ronly_any (.mk k3 x3t ns3 ks3) [nAWS] _ _ _ _ (HJ3.out.q ((Q.refl W5).alloc _)) (ns_new W5 [nAWS] (by decide)))
                    have HSz3 := Lib.hid (info_sz (.mk k3 x3t ns3 ks3) (.slice P3 ns3.length q3) (.slice R3 ks3.length s3))
                    go_wp2_with (refine wpList_load_row rfl 46 (.tmp 9) rfl f3 rfl 46 (cellJ (.mk k3 x3t ns3 ks3) (.slice P3 ns3.length q3) (.slice R3 ks3.length s3)).toArray (0, 0) _ HRow3.out Tryz.underlying46 rfl HSz3.out ?_)
                    refine HC.out.mono ?_
                    rintro e W6 ⟨rfl, hq6⟩
                    have HQ6 := Lib.hid (((Q.refl W5).alloc _).trans hq6)
                    have S6 := Lib.hid (S5.out.grow HQ6.out)
                    have HRw := Lib.hid (HQ6.out.block HRow3.out)
                    obtain ⟨o2, ho2⟩ : ∃ o2, onlyJ (.mk k3 x3t ns3 ks3) [nAWS] = o2 := ⟨_, rfl⟩
                    have HO2 := Lib.hid ho2
                    rw [ho2]
                    clear ho2 hq6 HC
                    have y2 : W6.cell? ⟨f3, 2, none⟩ = some (.slice P3 ns3.length q3) := by rw [cell_of_row _ _ _ _ _ _ HRw.out]; rfl
                    have y3 : W6.cell? ⟨f3, 3, none⟩ = some (.slice R3 ks3.length s3) := by rw [cell_of_row _ _ _ _ _ _ HRw.out]; rfl
                    cases o2 with
                    | false =>
                      clear y2 y3
                      have HX := Lib.hid (S6.out.out (o := o) (by rw [← HO.out]; exact (st_no (.inr (.inr (.inl (by rw [HW3.out]; exact who_none HNs.out HO2.out)))))) ⟨_, _, _, rfl⟩ ⟨_, _, _, rfl⟩ ⟨_, _, _, rfl⟩)
                      have HE := Lib.hid (setRow_at S6.out.r1 (#[.bool al, .slice none 0 0, .slice none 0 0, .slice none 0 0] : Array Value))
                      have HZ1 := Lib.hid S6.out.r1
                      have HZ2 := Lib.hid S6.out.r2
                      have HSz := Lib.hid (info_stmt (.slice none 0 0) (.slice none 0 0) (.slice none 0 0) al)
                      have HOne := Lib.hid (stm_one al (v1 := .slice none 0 0) (v2 := .slice none 0 0) (v3 := .slice none 0 0) ⟨_, _, _, rfl⟩ ⟨_, _, _, rfl⟩ ⟨_, _, _, rfl⟩)
                      go_wp2_with (first | refine wpList_load_row rfl 41 (.tmp 4) rfl (B + 2) rfl 41 #[.bool al, .slice none 0 0, .slice none 0 0, .slice none 0 0] (0, 0) _ HZ2.out Tryz.underlying41 rfl HSz.out ?_ | refine wpList_store_row rfl 41 (.tmp 2) (.tmp 87) rfl (B + 1) #[.bool al, .slice none 0 0, .slice none 0 0, .slice none 0 0] rfl rfl 41 _ HZ1.out HSz.out rfl HOne.out ?_)
                      exact bodyPost_ret (results_stmt (p := 2) (q := 3) rfl (by rfl) HE.out) rfl HX.out
                    | true =>
                      by_cases hl1 : ns3.length = 1
                      · have gl : ((ns3.length : Int) != 1) = false := by rw [hl1]; rfl
                        have hnl := wf_objn HR3.out HO2.out
                        obtain ⟨g, off, un, uk, hA⟩ := HK3.out 0 (by omega)
                        obtain rfl := hA.a
                        have hi0 : 0 < ks3.length := by omega
                        have HRg : Hid (W6.rangeAt g (off + 0 * 4) (cellJ (gK ks3 0) un uk)) := Lib.hid (fun m u hu => HQ6.out.cell (hA.rg m u hu))
                        have HRg2 : Hid (W6.rangeAt g off (cellJ (gK ks3 0) un uk)) := Lib.hid (by have := HRg.out; rwa [Nat.zero_mul, Nat.add_zero] at this)
                        have HIn : Hid ((Tryz.prog.info? 46).map (·.size) = some (cellJ (gK ks3 0) un uk).length) := Lib.hid (info_sz (gK ks3 0) un uk)
                        have HWho : Hid (whoJ (getJ j nPrincipal) = textsJ (gK ks3 0)) := Lib.hid (by rw [HW3.out]; exact who_one HNs.out HO2.out hl1 hnl)
                        have HC := Lib.hid (rtexts_any (gK ks3 0) W6 un uk (hA.jv.q HQ6.out) (kid_right HR3.out hi0))
                        obtain ⟨ot, hot⟩ : ∃ ot, textsJ (gK ks3 0) = ot := ⟨_, rfl⟩
                        rw [hot] at HC HWho
                        clear hot hA hl1 hnl
                        go_wp2_with (first | refine wpList_load_mid rfl 46 (.tmp 91) rfl g off rfl (cellJ (gK ks3 0) un uk) _ HRg2.out Tryz.underlying46 rfl HIn.out ?_; simp only [Act.put, List.setIfInBounds_toArray, List.set_cons_succ, List.set_cons_zero] | refine wpList_load_mid rfl 46 (.tmp 91) rfl g (off + 0 * 4) rfl (cellJ (gK ks3 0) un uk) _ HRg.out Tryz.underlying46 rfl HIn.out ?_; simp only [Act.put, List.setIfInBounds_toArray, List.set_cons_succ, List.set_cons_zero])
                        refine HC.out.mono ?_
                        intro e W7 hT
                        have hq7 : Q W6 W7 := hT.1
                        have S7 := Lib.hid (S6.out.grow hq7)
                        obtain ⟨-, z1, -, -⟩ := S7.out.cells
                        have zf := S7.out.fz 1
                        cases ot with
                        | none =>
                          obtain ⟨-, rfl⟩ := hT
                          have S8 := Lib.hid (S7.out.set 1 (.slice none 0 0) al _ _ _ rfl)
                          clear y2 y3 hq7 HC
                          have HX := Lib.hid (S8.out.out (o := o) (by rw [← HO.out]; exact (st_no (.inr (.inr (.inl HWho.out))))) ⟨_, _, _, rfl⟩ ⟨_, _, _, rfl⟩ ⟨_, _, _, rfl⟩)
                          have HE := Lib.hid (setRow_at S8.out.r1 (#[.bool al, .slice none 0 0, .slice none 0 0, .slice none 0 0] : Array Value))
                          have HZ1 := Lib.hid S8.out.r1
                          have HZ2 := Lib.hid S8.out.r2
                          have HSz := Lib.hid (info_stmt (.slice none 0 0) (.slice none 0 0) (.slice none 0 0) al)
                          have HOne := Lib.hid (stm_one al (v1 := .slice none 0 0) (v2 := .slice none 0 0) (v3 := .slice none 0 0) ⟨_, _, _, rfl⟩ ⟨_, _, _, rfl⟩ ⟨_, _, _, rfl⟩)
                          go_wp2_with (first | refine wpList_load_row rfl 41 (.tmp 4) rfl (B + 2) rfl 41 #[.bool al, .slice none 0 0, .slice none 0 0, .slice none 0 0] (0, 0) _ HZ2.out Tryz.underlying41 rfl HSz.out ?_ | refine wpList_store_row rfl 41 (.tmp 2) (.tmp 99) rfl (B + 1) #[.bool al, .slice none 0 0, .slice none 0 0, .slice none 0 0] rfl rfl 41 _ HZ1.out HSz.out rfl HOne.out ?_)
                          exact bodyPost_ret (results_stmt (p := 2) (q := 3) rfl (by rfl) HE.out) rfl HX.out
                        | some la =>
                          obtain ⟨-, v, rfl, hnv⟩ := hT
                          obtain ⟨V, vc, rfl⟩ := hnv.slice
                          have HX := Lib.hid (S7.out.set 1 (.slice V la.length vc) al _ _ _ rfl)
                          have HN := Lib.hid (nst_set (i := 1) (u := .slice V la.length vc) hnv S7.out.r2)
                          clear y2 y3 hq7 HC hnv
                          go_wp2_with fail
                          go_meet
                          exact ⟨_, _, la, HWho, HN, HX⟩
                      · have gl : ((ns3.length : Int) != 1) = true := by rw [bne_iff_ne]; omega
                        have hwn := who_len HNs.out HO2.out hl1
                        have HWn := Lib.hid hwn
                        clear hl1 hwn y3
                        have HX := Lib.hid (S6.out.out (o := o) (by rw [← HO.out]; exact (st_no (.inr (.inr (.inl (by rw [HW3.out]; exact HWn.out)))))) ⟨_, _, _, rfl⟩ ⟨_, _, _, rfl⟩ ⟨_, _, _, rfl⟩)
                        have HE := Lib.hid (setRow_at S6.out.r1 (#[.bool al, .slice none 0 0, .slice none 0 0, .slice none 0 0] : Array Value))
                        have HZ1 := Lib.hid S6.out.r1
                        have HZ2 := Lib.hid S6.out.r2
                        have HSz := Lib.hid (info_stmt (.slice none 0 0) (.slice none 0 0) (.slice none 0 0) al)
                        have HOne := Lib.hid (stm_one al (v1 := .slice none 0 0) (v2 := .slice none 0 0) (v3 := .slice none 0 0) ⟨_, _, _, rfl⟩ ⟨_, _, _, rfl⟩ ⟨_, _, _, rfl⟩)
                        go_wp2_with (first | refine wpList_load_row rfl 41 (.tmp 4) rfl (B + 2) rfl 41 #[.bool al, .slice none 0 0, .slice none 0 0, .slice none 0 0] (0, 0) _ HZ2.out Tryz.underlying41 rfl HSz.out ?_ | refine wpList_store_row rfl 41 (.tmp 2) (.tmp 87) rfl (B + 1) #[.bool al, .slice none 0 0, .slice none 0 0, .slice none 0 0] rfl rfl 41 _ HZ1.out HSz.out rfl HOne.out ?_)
                        exact bodyPost_ret (results_stmt (p := 2) (q := 3) rfl (by rfl) HE.out) rfl HX.out
                case rest =>
                  obtain ⟨V, vc, la, HWa, HNa, S9⟩ := hcut
                  rename World => W9
                  have HC : Hid (Calls Tryz.prog 14 #[.agg (cellJ j (.slice A1 n1 c1) (.slice A2 n2 c2)).toArray, .string ⟨#[65, 99, 116, 105, 111, 110]⟩] W9 (RFindP j nAction W9)) := Lib.hid (rFind_any j nAction W9 _ _ (HJ.out.q S9.out.q) HBig.out)
                  have HR0 := Lib.hid S9.out.r0
                  go_wp2_with (refine wpList_load_row rfl 46 (.tmp 1) rfl B rfl 46 (cellJ j (.slice A1 n1 c1) (.slice A2 n2 c2)).toArray (0, 0) _ HR0.out Tryz.underlying46 rfl HSj.out ?_)
                  refine HC.out.mono ?_
                  rintro e X4 ⟨fn, fk, rfl, hjf, hqf⟩
                  obtain ⟨⟨P4, p4, q4, rfl⟩, ⟨R4, r4, s4, rfl⟩⟩ := jv_slices hjf
                  have HG4 := Lib.hid (find_get (x := nAction) HK7.out HRt.out)
                  have HFr4 := Lib.hid (fun h => found_right (j := j) (x := nAction) h)
                  obtain ⟨⟨F4, t4⟩, hF4⟩ : ∃ F, findJ j nAction = F := ⟨_, rfl⟩
                  rw [hF4] at hjf HG4 HFr4 ⊢
                  have HSf := Lib.hid (info_sz F4 (.slice P4 p4 q4) (.slice R4 r4 s4))
                  have HOf := Lib.hid (cellJ_one (j := F4) (un := .slice P4 p4 q4) (uk := .slice R4 r4 s4) ⟨_, _, _, rfl⟩ ⟨_, _, _, rfl⟩)
                  have HJf := Lib.hid hjf
                  have HQf := Lib.hid hqf
                  clear hF4 hjf hqf HC HR0
                  go_upto_region 24 with (refine wpList_store_row rfl 46 (.tmp 11) (.tmp 103) rfl X4.heap.size (cellJ F4 (.slice P4 p4 q4) (.slice R4 r4 s4)).toArray rfl rfl 46 _ (heap_alloc_new X4 _) HSf.out rfl HOf.out ?_)
                  obtain ⟨W10, hW⟩ : ∃ W, (X4.alloc (.cells #[.int .i64 0, .string ⟨#[]⟩, .slice none 0 0, .slice none 0 0] 46)).setRow X4.heap.size (cellJ F4 (.slice P4 p4 q4) (.slice R4 r4 s4)).toArray = W := ⟨_, rfl⟩
                  have hk : W10.heap[X4.heap.size]? = some (.cells (cellJ F4 (.slice P4 p4 q4) (.slice R4 r4 s4)).toArray 46 (0, 0)) := by rw [← hW]; exact setRow_at (heap_alloc_new X4 _) _
                  have hqx : Q X4 W10 := by rw [← hW]; exact ((Q.refl X4).alloc _).setRow (Nat.le_refl _) _
                  rw [hW]
                  obtain ⟨f4, hf⟩ : ∃ f, X4.heap.size = f := ⟨_, rfl⟩
                  rw [hf] at hk ⊢
                  have S10 := Lib.hid (S9.out.grow (HQf.out.trans hqx))
                  have HRow4 := Lib.hid hk
                  have HJ4 := Lib.hid (HJf.out.q hqx)
                  have HStep4 := Lib.hid (HQf.out.trans hqx)
                  clear hW hk hqx hf HSf HOf HJf HQf
                  have HNa2 := Lib.hid (HNa.out.q HStep4.out)
                  cases t4 with
                  | false =>
                    have HX := Lib.hid (S10.out.out (o := o) (by rw [← HO.out]; exact (st_no (.inr (.inr (.inr (.inl (by rw [HG4.out]; rfl))))))) ⟨_, _, _, rfl⟩ ⟨_, _, _, rfl⟩ ⟨_, _, _, rfl⟩)
                    have HE := Lib.hid (setRow_at S10.out.r1 (#[.bool al, .slice V la.length vc, .slice none 0 0, .slice none 0 0] : Array Value))
                    have HZ1 := Lib.hid S10.out.r1
                    have HZ2 := Lib.hid S10.out.r2
                    have HSz := Lib.hid (info_stmt (.slice V la.length vc) (.slice none 0 0) (.slice none 0 0) al)
                    have HOne := Lib.hid (stm_one al (v1 := .slice V la.length vc) (v2 := .slice none 0 0) (v3 := .slice none 0 0) ⟨_, _, _, rfl⟩ ⟨_, _, _, rfl⟩ ⟨_, _, _, rfl⟩)
                    go_wp2_with (first | refine wpList_load_row rfl 41 (.tmp 4) rfl (B + 2) rfl 41 #[.bool al, .slice V la.length vc, .slice none 0 0, .slice none 0 0] (0, 0) _ HZ2.out Tryz.underlying41 rfl HSz.out ?_ | refine wpList_store_row rfl 41 (.tmp 2) (.tmp 107) rfl (B + 1) #[.bool al, .slice V la.length vc, .slice none 0 0, .slice none 0 0] rfl rfl 41 _ HZ1.out HSz.out rfl HOne.out ?_)
                    exact bodyPost_ret (results_stmt (p := 2) (q := 3) rfl (by rfl) HE.out) rfl HX.out
                  | true =>
                    have HT4 : Hid ((getJ j nAction).bind textsJ = textsJ F4) := Lib.hid (by rw [HG4.out, if_pos rfl]; rfl)
                    have HC := Lib.hid (rtexts_any F4 W10 _ _ HJ4.out (HFr4.out rfl))
                    have HSf := Lib.hid (info_sz F4 (.slice P4 p4 q4) (.slice R4 r4 s4))
                    obtain ⟨ot4, hot⟩ : ∃ ot, textsJ F4 = ot := ⟨_, rfl⟩
                    rw [hot] at HC HT4
                    clear hot
                    go_wp2_with (refine wpList_load_row rfl 46 (.tmp 11) rfl f4 rfl 46 (cellJ F4 (.slice P4 p4 q4) (.slice R4 r4 s4)).toArray (0, 0) _ HRow4.out Tryz.underlying46 rfl HSf.out ?_)
                    refine HC.out.mono ?_
                    intro e W11 hT
                    have hq : Q W10 W11 := hT.1
                    have S11 := Lib.hid (S10.out.grow hq)
                    have HNa3 := Lib.hid (HNa2.out.q hq)
                    obtain ⟨-, z1, z2, z3⟩ := S11.out.cells
                    have zf := S11.out.fz 2
                    cases ot4 with
                    | none =>
                      obtain ⟨-, rfl⟩ := hT
                      have S12 := Lib.hid (S11.out.set 2 (.slice none 0 0) al _ _ _ rfl)
                      clear hq HC
                      have HX := Lib.hid (S12.out.out (o := o) (by rw [← HO.out]; exact (st_no (.inr (.inr (.inr (.inl HT4.out)))))) ⟨_, _, _, rfl⟩ ⟨_, _, _, rfl⟩ ⟨_, _, _, rfl⟩)
                      have HE := Lib.hid (setRow_at S12.out.r1 (#[.bool al, .slice V la.length vc, .slice none 0 0, .slice none 0 0] : Array Value))
                      have HZ1 := Lib.hid S12.out.r1
                      have HZ2 := Lib.hid S12.out.r2
                      have HSz := Lib.hid (info_stmt (.slice V la.length vc) (.slice none 0 0) (.slice none 0 0) al)
                      have HOne := Lib.hid (stm_one al (v1 := .slice V la.length vc) (v2 := .slice none 0 0) (v3 := .slice none 0 0) ⟨_, _, _, rfl⟩ ⟨_, _, _, rfl⟩ ⟨_, _, _, rfl⟩)
                      go_wp2_with (first | refine wpList_load_row rfl 41 (.tmp 4) rfl (B + 2) rfl 41 #[.bool al, .slice V la.length vc, .slice none 0 0, .slice none 0 0] (0, 0) _ HZ2.out Tryz.underlying41 rfl HSz.out ?_ | refine wpList_store_row rfl 41 (.tmp 2) (.tmp 116) rfl (B + 1) #[.bool al, .slice V la.length vc, .slice none 0 0, .slice none 0 0] rfl rfl 41 _ HZ1.out HSz.out rfl HOne.out ?_)
                      exact bodyPost_ret (results_stmt (p := 2) (q := 3) rfl (by rfl) HE.out) rfl HX.out
                    | some lb =>
                      obtain ⟨-, v, rfl, hnv⟩ := hT
                      obtain ⟨Vb, vbc, rfl⟩ := hnv.slice
                      obtain ⟨W12, hW12⟩ : ∃ W12, W11.setCell ⟨B + 2, 2, none⟩ (.slice Vb lb.length vbc) = W12 := ⟨_, rfl⟩
                      have S12 : Hid (RSt w B j (.slice A1 n1 c1) (.slice A2 n2 c2) al (.slice V la.length vc) (.slice Vb lb.length vbc) (.slice none 0 0) W12) := Lib.hid (by rw [← hW12]; exact S11.out.set 2 _ al _ _ _ rfl)
                      have HNa4 : Hid (NsT W12 (.slice V la.length vc) la) := Lib.hid (by rw [← hW12]; exact nst_set HNa3.out S11.out.r2)
                      have HNb4 : Hid (NsT W12 (.slice Vb lb.length vbc) lb) := Lib.hid (by rw [← hW12]; exact nst_set hnv S11.out.r2)
                      have HW12 := Lib.hid hW12
                      clear hnv hW12 hq HC
                      go_upto_region 27 with (fail)
                      rw [HW12.out]
                      clear z1 z2 z3 zf
                      have HC : Hid (Calls Tryz.prog 14 #[.agg (cellJ j (.slice A1 n1 c1) (.slice A2 n2 c2)).toArray, .string ⟨#[82, 101, 115, 111, 117, 114, 99, 101]⟩] W12 (RFindP j nResource W12)) := Lib.hid (rFind_any j nResource W12 _ _ (HJ.out.q S12.out.q) HBig.out)
                      have HR0 := Lib.hid S12.out.r0
                      go_wp2_with (refine wpList_load_row rfl 46 (.tmp 1) rfl B rfl 46 (cellJ j (.slice A1 n1 c1) (.slice A2 n2 c2)).toArray (0, 0) _ HR0.out Tryz.underlying46 rfl HSj.out ?_)
                      refine HC.out.mono ?_
                      rintro e X5 ⟨fn, fk, rfl, hjf, hqf⟩
                      obtain ⟨⟨P5, p5, q5, rfl⟩, ⟨R5, r5, s5, rfl⟩⟩ := jv_slices hjf
                      have HG5 := Lib.hid (find_get (x := nResource) HK7.out HRt.out)
                      have HFr5 := Lib.hid (fun h => found_right (j := j) (x := nResource) h)
                      obtain ⟨⟨F5, t5⟩, hF5⟩ : ∃ F, findJ j nResource = F := ⟨_, rfl⟩
                      rw [hF5] at hjf HG5 HFr5 ⊢
                      have HSf := Lib.hid (info_sz F5 (.slice P5 p5 q5) (.slice R5 r5 s5))
                      have HOf := Lib.hid (cellJ_one (j := F5) (un := .slice P5 p5 q5) (uk := .slice R5 r5 s5) ⟨_, _, _, rfl⟩ ⟨_, _, _, rfl⟩)
                      have HJf := Lib.hid hjf
                      have HQf := Lib.hid hqf
                      clear hF5 hjf hqf HC HR0
                      go_upto_region 30 with (refine wpList_store_row rfl 46 (.tmp 12) (.tmp 120) rfl X5.heap.size (cellJ F5 (.slice P5 p5 q5) (.slice R5 r5 s5)).toArray rfl rfl 46 _ (heap_alloc_new X5 _) HSf.out rfl HOf.out ?_)
                      obtain ⟨W13, hW⟩ : ∃ W, (X5.alloc (.cells #[.int .i64 0, .string ⟨#[]⟩, .slice none 0 0, .slice none 0 0] 46)).setRow X5.heap.size (cellJ F5 (.slice P5 p5 q5) (.slice R5 r5 s5)).toArray = W := ⟨_, rfl⟩
                      have hk : W13.heap[X5.heap.size]? = some (.cells (cellJ F5 (.slice P5 p5 q5) (.slice R5 r5 s5)).toArray 46 (0, 0)) := by rw [← hW]; exact setRow_at (heap_alloc_new X5 _) _
                      have hqx : Q X5 W13 := by rw [← hW]; exact ((Q.refl X5).alloc _).setRow (Nat.le_refl _) _
                      rw [hW]
                      obtain ⟨f5, hf⟩ : ∃ f, X5.heap.size = f := ⟨_, rfl⟩
                      rw [hf] at hk ⊢
                      have S13 := Lib.hid (S12.out.grow (HQf.out.trans hqx))
                      have HRow5 := Lib.hid hk
                      have HJ5 := Lib.hid (HJf.out.q hqx)
                      have HStep5 := Lib.hid (HQf.out.trans hqx)
                      clear hW hk hqx hf HSf HOf HJf HQf
                      have HNa5 := Lib.hid (HNa4.out.q HStep5.out)
                      have HNb5 := Lib.hid (HNb4.out.q HStep5.out)
                      cases t5 with
                      | false =>
                        have HX := Lib.hid (S13.out.out (o := o) (by rw [← HO.out]; exact (st_no (.inr (.inr (.inr (.inr (by rw [HG5.out]; rfl))))))) ⟨_, _, _, rfl⟩ ⟨_, _, _, rfl⟩ ⟨_, _, _, rfl⟩)
                        have HE := Lib.hid (setRow_at S13.out.r1 (#[.bool al, .slice V la.length vc, .slice Vb lb.length vbc, .slice none 0 0] : Array Value))
                        have HZ1 := Lib.hid S13.out.r1
                        have HZ2 := Lib.hid S13.out.r2
                        have HSz := Lib.hid (info_stmt (.slice V la.length vc) (.slice Vb lb.length vbc) (.slice none 0 0) al)
                        have HOne := Lib.hid (stm_one al (v1 := .slice V la.length vc) (v2 := .slice Vb lb.length vbc) (v3 := .slice none 0 0) ⟨_, _, _, rfl⟩ ⟨_, _, _, rfl⟩ ⟨_, _, _, rfl⟩)
                        go_wp2_with (first | refine wpList_load_row rfl 41 (.tmp 4) rfl (B + 2) rfl 41 #[.bool al, .slice V la.length vc, .slice Vb lb.length vbc, .slice none 0 0] (0, 0) _ HZ2.out Tryz.underlying41 rfl HSz.out ?_ | refine wpList_store_row rfl 41 (.tmp 2) (.tmp 124) rfl (B + 1) #[.bool al, .slice V la.length vc, .slice Vb lb.length vbc, .slice none 0 0] rfl rfl 41 _ HZ1.out HSz.out rfl HOne.out ?_)
                        exact bodyPost_ret (results_stmt (p := 2) (q := 3) rfl (by rfl) HE.out) rfl HX.out
                      | true =>
                        have HT5 : Hid ((getJ j nResource).bind textsJ = textsJ F5) := Lib.hid (by rw [HG5.out, if_pos rfl]; rfl)
                        have HC := Lib.hid (rtexts_any F5 W13 _ _ HJ5.out (HFr5.out rfl))
                        have HSf := Lib.hid (info_sz F5 (.slice P5 p5 q5) (.slice R5 r5 s5))
                        obtain ⟨ot5, hot⟩ : ∃ ot, textsJ F5 = ot := ⟨_, rfl⟩
                        rw [hot] at HC HT5
                        clear hot
                        go_wp2_with (refine wpList_load_row rfl 46 (.tmp 12) rfl f5 rfl 46 (cellJ F5 (.slice P5 p5 q5) (.slice R5 r5 s5)).toArray (0, 0) _ HRow5.out Tryz.underlying46 rfl HSf.out ?_)
                        refine HC.out.mono ?_
                        intro e W14 hT
                        have hq : Q W13 W14 := hT.1
                        have S14 := Lib.hid (S13.out.grow hq)
                        have HNa6 := Lib.hid (HNa5.out.q hq)
                        have HNb6 := Lib.hid (HNb5.out.q hq)
                        obtain ⟨-, z1, z2, z3⟩ := S14.out.cells
                        have zf := S14.out.fz 3
                        cases ot5 with
                        | none =>
                          obtain ⟨-, rfl⟩ := hT
                          have S15 := Lib.hid (S14.out.set 3 (.slice none 0 0) al _ _ _ rfl)
                          clear hq HC
                          have HX := Lib.hid (S15.out.out (o := o) (by rw [← HO.out]; exact (st_no (.inr (.inr (.inr (.inr HT5.out)))))) ⟨_, _, _, rfl⟩ ⟨_, _, _, rfl⟩ ⟨_, _, _, rfl⟩)
                          have HE := Lib.hid (setRow_at S15.out.r1 (#[.bool al, .slice V la.length vc, .slice Vb lb.length vbc, .slice none 0 0] : Array Value))
                          have HZ1 := Lib.hid S15.out.r1
                          have HZ2 := Lib.hid S15.out.r2
                          have HSz := Lib.hid (info_stmt (.slice V la.length vc) (.slice Vb lb.length vbc) (.slice none 0 0) al)
                          have HOne := Lib.hid (stm_one al (v1 := .slice V la.length vc) (v2 := .slice Vb lb.length vbc) (v3 := .slice none 0 0) ⟨_, _, _, rfl⟩ ⟨_, _, _, rfl⟩ ⟨_, _, _, rfl⟩)
                          go_wp2_with (first | refine wpList_load_row rfl 41 (.tmp 4) rfl (B + 2) rfl 41 #[.bool al, .slice V la.length vc, .slice Vb lb.length vbc, .slice none 0 0] (0, 0) _ HZ2.out Tryz.underlying41 rfl HSz.out ?_ | refine wpList_store_row rfl 41 (.tmp 2) (.tmp 131) rfl (B + 1) #[.bool al, .slice V la.length vc, .slice Vb lb.length vbc, .slice none 0 0] rfl rfl 41 _ HZ1.out HSz.out rfl HOne.out ?_)
                          exact bodyPost_ret (results_stmt (p := 2) (q := 3) rfl (by rfl) HE.out) rfl HX.out
                        | some lc =>
                          obtain ⟨-, v, rfl, hnv⟩ := hT
                          obtain ⟨Vc, vcc, rfl⟩ := hnv.slice
                          have S15 := Lib.hid (S14.out.set 3 (.slice Vc lc.length vcc) al _ _ _ rfl)
                          have HO3 : Hid (o = some ⟨al, la, lb, lc⟩) := Lib.hid (by rw [← HO.out, st_yes HO1.out HSid.out HIs.out HWa.out HT4.out HT5.out, HAl.out])
                          have HX : Hid (RStP o w (.returned (.tuple #[.agg #[.bool al, .slice V la.length vc, .slice Vb lb.length vbc, .slice Vc lc.length vcc], .bool true])) ((W14.setCell ⟨B + 2, 3, none⟩ (.slice Vc lc.length vcc)).setRow (B + 1) #[.bool al, .slice V la.length vc, .slice Vb lb.length vbc, .slice Vc lc.length vcc])) := Lib.hid (by
                            have hb := S15.out.b0
                            rw [HO3.out]
                            refine ⟨S15.out.q.setRow (g := B + 1) (by omega) _, al, _, _, _, rfl, ⟨_, _, _, rfl⟩, ⟨_, _, _, rfl⟩, ⟨_, _, _, rfl⟩, fun s hs => ?_⟩
                            injection hs with hs
                            subst hs
                            exact ⟨rfl, nst_row (nst_set HNa6.out S14.out.r2) S15.out.r1, nst_row (nst_set HNb6.out S14.out.r2) S15.out.r1, nst_row (nst_set hnv S14.out.r2) S15.out.r1⟩)
                          have HE := Lib.hid (setRow_at S15.out.r1 (#[.bool al, .slice V la.length vc, .slice Vb lb.length vbc, .slice Vc lc.length vcc] : Array Value))
                          have HZ1 := Lib.hid S15.out.r1
                          have HZ2 := Lib.hid S15.out.r2
                          have HSz := Lib.hid (info_stmt (.slice V la.length vc) (.slice Vb lb.length vbc) (.slice Vc lc.length vcc) al)
                          have HOne := Lib.hid (stm_one al (v1 := .slice V la.length vc) (v2 := .slice Vb lb.length vbc) (v3 := .slice Vc lc.length vcc) ⟨_, _, _, rfl⟩ ⟨_, _, _, rfl⟩ ⟨_, _, _, rfl⟩)
                          clear hnv hq HC
                          go_wp2_with (first | refine wpList_load_row rfl 41 (.tmp 4) rfl (B + 2) rfl 41 #[.bool al, .slice V la.length vc, .slice Vb lb.length vbc, .slice Vc lc.length vcc] (0, 0) _ HZ2.out Tryz.underlying41 rfl HSz.out ?_ | refine wpList_store_row rfl 41 (.tmp 2) (.tmp 131) rfl (B + 1) #[.bool al, .slice V la.length vc, .slice Vb lb.length vbc, .slice Vc lc.length vcc] rfl rfl 41 _ HZ1.out HSz.out rfl HOne.out ?_)
                          exact bodyPost_ret (results_stmt (p := 2) (q := 3) rfl (by rfl) HE.out) rfl HX.out
end Go.Proofs.YtlhhiiemojhjdaaGreatDoor
