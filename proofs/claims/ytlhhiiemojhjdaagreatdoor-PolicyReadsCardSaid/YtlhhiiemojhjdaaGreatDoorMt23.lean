/- Texts of this proof, laid into one: PpE, PpF. -/
import Derived.Test.YtlhhiiemojhjdaaGreatDoorMt22
set_option linter.unusedVariables false
set_option linter.unusedSimpArgs false
namespace Go.Proofs.YtlhhiiemojhjdaaGreatDoor
open Go Go.RowKit
theorem results_four {fn : Func} {t u v x : Tmp} (h : fn.results = #[.tmp t, .tmp u, .tmp v, .tmp x]) (tmps : Array Value) (P : Program) (w : World) :
    (results fn tmps).run P w = .ok (.tuple #[tmps.getD t undef, tmps.getD u undef, tmps.getD v undef, tmps.getD x undef]) w := by
  simp [results, h]
def RPoP (o : Except (Option (Int × Int)) (List StmtD)) (w : World) (e : Ending) (w' : World) : Prop := Q w w' ∧
  match o with
  | .ok l => ∃ A c, e = .returned (.tuple #[.slice A l.length c, .bool true, .int .i64 0, .int .i64 0]) ∧ StsV w' (.slice A l.length c) l
  | .error none => e = .returned (.tuple #[.slice none 0 0, .bool false, .int .i64 0, .int .i64 0])
  | .error (some ca) => ca.1 ≠ 0 ∧ e = .returned (.tuple #[.slice none 0 0, .bool false, .int .i64 ca.1, .int .i64 ca.2])
theorem pol_no {j : JsonD} (h : isTextJ (getJ j nVersion) false [nDate] = false ∨ isTextJ (getJ j nId) false [] = false) : policyJ j = none := by
  unfold policyJ
  split
  · next hc =>
    simp only [Bool.and_eq_true] at hc
    rcases h with h | h
    · rw [h] at hc; exact absurd hc.1.2 (by decide)
    · rw [h] at hc; exact absurd hc.2 (by decide)
  · rfl
theorem pol_only {j : JsonD} (h : onlyJ j threeN = false) : policyJ j = none := by
  unfold policyJ
  rw [if_neg]
  intro hc
  simp only [Bool.and_eq_true] at hc
  rw [show onlyJ j [nVersion, nId, nStatement] = false from h] at hc
  exact absurd hc.1.1 (by decide)
theorem pol_len {j : JsonD} {L : List JsonD} (hL : L = allJ (getJ j nStatement)) (h : ¬ (1 ≤ L.length ∧ L.length ≤ 10)) : policyJ j = none := by
  subst hL
  unfold policyJ
  split
  · first | rfl | rw [if_neg h]
  · rfl
theorem pol_st {j : JsonD} {L : List JsonD} (hL : L = allJ (getJ j nStatement)) (h : stmtsJ L = none) : policyJ j = none := by
  subst hL
  unfold policyJ
  split
  · split
    · exact h
    · rfl
  · rfl
theorem pol_yes {j : JsonD} {L : List JsonD} {l : List StmtD} (hL : L = allJ (getJ j nStatement)) (h1 : onlyJ j threeN = true) (h2 : isTextJ (getJ j nVersion) false [nDate] = true) (h3 : isTextJ (getJ j nId) false [] = true) (h4 : 1 ≤ L.length ∧ L.length ≤ 10) (h : stmtsJ L = some l) : policyJ j = some l := by
  subst hL
  unfold policyJ
  rw [if_pos (by rw [show onlyJ j [nVersion, nId, nStatement] = true from h1, h2, h3]; rfl), if_pos h4, h]
theorem gSt_left {l : List StmtD} {s : StmtD} {i : Nat} (h : i < l.length) : gSt (l ++ [s]) i = gSt l i := by
  simp [gSt, List.getD, List.getElem?_append_left h]
theorem gSt_last {l : List StmtD} {s : StmtD} : gSt (l ++ [s]) l.length = s := by
  simp [gSt, List.getD]
structure CpS (base : Nat) (l : List StmtD) (W : World) (v : Value) (cells : List Value) : Prop where
  krow : W.ownsRow base 41 4 v l.length cells
  sk : ∀ i, i < l.length → ∃ va vb vc, NsT W va (gSt l i).who ∧ NsT W vb (gSt l i).acts ∧ NsT W vc (gSt l i).ress ∧ ∀ m u, (stmC (gSt l i) va vb vc)[m]? = some u → cells[i * 4 + m]? = some u
theorem CpS.start (base : Nat) (W : World) : CpS base [] W (.slice none 0 0) [] := ⟨World.ownsRow_nil _ _ _ _, fun i h => absurd h (by simp)⟩
theorem CpS.push {base : Nat} {l : List StmtD} {W w3 w4 : World} {v v' va vb vc : Value} {cells : List Value} {s : StmtD} (h : CpS base l W v cells) (h3 : Q W w3) (ha : NsT w3 va s.who) (hb : NsT w3 vb s.acts) (hc : NsT w3 vc s.ress)
    (hgrow : w3.grownBy w4 v.ownBlock) (hrow : w4.ownsRow base 41 4 v' (l.length + 1) (cells ++ stmC s va vb vc)) : CpS base (l ++ [s]) w4 v' (cells ++ stmC s va vb vc) := by
  have ho : w3.ownsRow base 41 4 v l.length cells := ownsRow_frame h.krow (fun i _ h => Below.block h3 i h)
  have hl : cells.length = l.length * 4 := h.krow.1
  refine ⟨by simpa using hrow, fun i hi => ?_⟩
  by_cases hil : i < l.length
  · obtain ⟨xa, xb, xc, h1, h2, h4, h5⟩ := h.sk i hil
    rw [gSt_left hil]
    refine ⟨xa, xb, xc, (h1.q h3).grown ho hgrow, (h2.q h3).grown ho hgrow, (h4.q h3).grown ho hgrow, fun m u hu => ?_⟩
    have h6 := h5 m u hu
    rw [List.getElem?_append_left (List.getElem?_eq_some_iff.1 h6).1]; exact h6
  · have e : i = l.length := by simp at hi; omega
    subst e
    rw [gSt_last]
    refine ⟨va, vb, vc, ha.grown ho hgrow, hb.grown ho hgrow, hc.grown ho hgrow, fun m u hu => ?_⟩
    rw [List.getElem?_append_right (by omega), hl]
    rw [show l.length * 4 + m - l.length * 4 = m by omega]; exact hu
theorem CpS.read {base : Nat} {l : List StmtD} {W : World} {v : Value} {cells : List Value} (h : CpS base l W v cells) : StsV W v l := by
  obtain ⟨A, c, e, h1, h2, h3⟩ := row_cells h.krow h.krow.1
  refine ⟨A, c, e, h1, Nat.le_trans h2 (by decide), fun i hi => ?_⟩
  obtain ⟨g, e2, h4⟩ := h3 (by omega)
  obtain ⟨va, vb, vc, k1, k2, k3, k4⟩ := h.sk i hi
  refine ⟨g, 0, va, vb, vc, e2, ⟨k1.1, k2.1, k3.1⟩, ?_, ?_, ?_, ?_⟩
  · exact h4 _ _ (k4 0 _ rfl)
  · rw [Nat.add_assoc]; exact h4 _ _ (k4 1 _ rfl)
  · rw [Nat.add_assoc]; exact h4 _ _ (k4 2 _ rfl)
  · rw [Nat.add_assoc]; exact h4 _ _ (k4 3 _ rfl)
theorem found_big {j : JsonD} {x : Txt} (h : bigJ 9223372036854775807 j) : bigJ 9223372036854775807 (findJ j x).1 := by
  unfold findJ
  split
  · next hh =>
    obtain ⟨k, t, ns, ks⟩ := j
    obtain ⟨h1, h2, h3⟩ := hh
    have h1 : k = 7 := h1
    subst h1
    have h3 : 0 ≤ ixN x ns 0 := h3
    have hb := ixN_bound x ns 0 h3
    have hl := wf_obj (rt_wf h2).1
    rw [bigJ] at h
    exact bigKs_gK h.2.2 (i := (ixN x ns 0).toNat) (by omega)
  · rw [zeroJ, bigJ, bigKs]; simp
set_option maxRecDepth 100000 in
set_option maxHeartbeats 16000000 in
theorem rpolicy_any (s : Txt) (w : World) : Calls Tryz.prog 5 #[.string ⟨s.toArray⟩] w (RPoP (polR s) w) := by
  have HPa := Lib.hid (rparse_any s w)
  obtain ⟨O, hO⟩ : ∃ O, polR s = O := ⟨_, rfl⟩
  have HO := Lib.hid hO
  rw [hO]
  obtain ⟨C, hC⟩ : ∃ C, (toldN s).1 = C := ⟨_, rfl⟩
  obtain ⟨P, hP⟩ : ∃ P, (toldN s).2 = P := ⟨_, rfl⟩
  have HCP : Hid ((toldN s).1 = C ∧ (toldN s).2 = P) := Lib.hid ⟨hC, hP⟩
  clear hO hC hP
  go_enter Tryz.func5, Tryz.ntmps5
  go_wp2_with fail
  refine HPa.out.mono ?_
  rintro e w1 ⟨hq1, vn, vk, rfl, hjo⟩
  have HQ1 := Lib.hid hq1
  obtain ⟨⟨A1, n1, c1, rfl⟩, ⟨A2, n2, c2, rfl⟩⟩ := jo_form hjo
  have HJo := Lib.hid hjo.read
  rw [HCP.out.1, HCP.out.2]
  obtain ⟨j, hj⟩ : ∃ j, pV s = j := ⟨_, rfl⟩
  have HPj := Lib.hid hj
  rw [hj] at HJo ⊢
  have HSj := Lib.hid (info_sz j (.slice A1 n1 c1) (.slice A2 n2 c2))
  have HOj := Lib.hid (cellJ_one (j := j) (un := .slice A1 n1 c1) (uk := .slice A2 n2 c2) ⟨_, _, _, rfl⟩ ⟨_, _, _, rfl⟩)
  clear hq1 hjo hj HPa
  go_upto_region 2 with (refine wpList_store_row rfl 46 (.tmp 6) (.tmp 22) rfl w1.heap.size (cellJ j (.slice A1 n1 c1) (.slice A2 n2 c2)).toArray rfl rfl 46 _ (heap_alloc_new w1 _) HSj.out rfl HOj.out ?_)
  obtain ⟨W2, hW2⟩ : ∃ W2, (w1.alloc (.cells #[.int .i64 0, .string ⟨#[]⟩, .slice none 0 0, .slice none 0 0] 46)).setRow w1.heap.size (cellJ j (.slice A1 n1 c1) (.slice A2 n2 c2)).toArray = W2 := ⟨_, rfl⟩
  have hk2 : W2.heap[w1.heap.size]? = some (.cells (cellJ j (.slice A1 n1 c1) (.slice A2 n2 c2)).toArray 46 (0, 0)) := by rw [← hW2]; exact setRow_at (heap_alloc_new w1 _) _
  have hq2 : Q w1 W2 := by rw [← hW2]; exact ((Q.refl w1).alloc _).setRow (Nat.le_refl _) _
  rw [hW2]
  obtain ⟨jb, hjb⟩ : ∃ jb, w1.heap.size = jb := ⟨_, rfl⟩
  rw [hjb] at hk2 ⊢
  have HRow := Lib.hid hk2
  have HQ2 := Lib.hid (HQ1.out.trans hq2)
  have HJ := Lib.hid (HJo.out.q hq2)
  clear hW2 hk2 hq2 hjb HJo HQ1 HOj
  cases hp : parseJ s with
  | error ca =>
    obtain ⟨c, a⟩ := ca
    have hcode := parse_code hp
    have hC : C = (c : Int) := by rw [← HCP.out.1]; unfold toldN; rw [hp]
    have hP : P = (a : Int) := by rw [← HCP.out.2]; unfold toldN; rw [hp]
    have hc0 : C ≠ 0 := by omega
    have HX : Hid (RPoP O w (.returned (.tuple #[.slice none 0 0, .bool false, .int .i64 C, .int .i64 P])) W2) := Lib.hid (by
      have e : O = .error (some ((c : Int), (a : Int))) := by rw [← HO.out]; unfold polR; rw [hp]
      rw [e, hC, hP]
      exact ⟨HQ2.out, by show (c : Int) ≠ 0; omega, rfl⟩)
    have g0 : (C != 0) = true := by simpa using hc0
    clear hcode hC hP hc0 hp
    go_wp2_with fail
    ((try simp only [Exit.inBlock, Exit.then]); refine bodyPost_ret (results_four rfl _ _ _) rfl ?_)
    exact HX.out
  | ok v =>
    have hC : C = 0 := by rw [← HCP.out.1]; unfold toldN; rw [hp]
    have hP : P = 0 := by rw [← HCP.out.2]; unfold toldN; rw [hp]
    have hjv : j = v := by rw [← HPj.out]; unfold pV; rw [hp]
    have HRt : Hid (rtB j 20 8000 = true) := Lib.hid (by rw [hjv]; exact (rt_parse hp).1)
    have HBig : Hid (bigJ 9223372036854775807 j) := Lib.hid (by rw [← HPj.out]; exact bigJ_mono (by decide) _ (pV_big s))
    have HON : Hid (policyJ j = none → O = .error none) := Lib.hid (fun h => by rw [← HO.out]; unfold polR; rw [hp]; rw [hjv] at h; simp only; rw [h])
    have HOK : Hid (∀ l, policyJ j = some l → O = .ok l) := Lib.hid (fun l h => by rw [← HO.out]; unfold polR; rw [hp]; rw [hjv] at h; simp only; rw [h])
    subst hC hP
    clear hjv hp HCP HPj HO
    have HQ0 := Lib.hid (Q.refl W2)
    have HC : Hid (Calls Tryz.prog 13 #[.agg (cellJ j (.slice A1 n1 c1) (.slice A2 n2 c2)).toArray, .slice (some ⟨W2.heap.size, 0, none⟩) 3 3] (W2.alloc (.cells (threeN.map strV).toArray 9)) fun e w' => e = .returned (.bool (onlyJ j threeN)) ∧ Q (W2.alloc (.cells (threeN.map strV).toArray 9)) w') := Lib.hid (ronly_any j threeN _ _ _ _ (HJ.out.q ((Q.refl W2).alloc _)) (ns_new W2 threeN (by decide)))
    go_wp2_with (refine wpList_load_row rfl 46 (.tmp 6) rfl jb rfl 46 (cellJ j (.slice A1 n1 c1) (.slice A2 n2 c2)).toArray (0, 0) _ HRow.out Tryz.underlying46 rfl HSj.out ?_)
    refine HC.out.mono ?_
    rintro e W3 ⟨rfl, hq3⟩
    have HQ3 := Lib.hid (((Q.refl W2).alloc _).trans hq3)
    obtain ⟨o1, ho1⟩ : ∃ o1, onlyJ j threeN = o1 := ⟨_, rfl⟩
    have HO1 := Lib.hid ho1
    rw [ho1]
    clear ho1 hq3 HC
    cases o1 with
    | false =>
      have HX : Hid (RPoP O w (.returned (.tuple #[.slice none 0 0, .bool false, .int .i64 0, .int .i64 0])) _) := Lib.hid (by
        rw [HON.out (pol_only HO1.out)]
        exact ⟨HQ2.out.trans HQ3.out, rfl⟩)
      go_wp2_with fail
      ((try simp only [Exit.inBlock, Exit.then]); refine bodyPost_ret (results_four rfl _ _ _) rfl ?_)
      exact HX.out
    | true =>
      have HK7 := Lib.hid (only_kind7 HO1.out)
      have HC : Hid (Calls Tryz.prog 14 #[.agg (cellJ j (.slice A1 n1 c1) (.slice A2 n2 c2)).toArray, .string ⟨#[86, 101, 114, 115, 105, 111, 110]⟩] W3 (RFindP j nVersion W3)) := Lib.hid (rFind_any j nVersion W3 _ _ (HJ.out.q HQ3.out) HBig.out)
      have HR0 := Lib.hid (HQ3.out.block HRow.out)
      go_wp2_with (refine wpList_load_row rfl 46 (.tmp 6) rfl jb rfl 46 (cellJ j (.slice A1 n1 c1) (.slice A2 n2 c2)).toArray (0, 0) _ HR0.out Tryz.underlying46 rfl HSj.out ?_)
      refine HC.out.mono ?_
      rintro e X1 ⟨fn, fk, rfl, hjf, hqf⟩
      obtain ⟨⟨P1, p1, q1, rfl⟩, ⟨R1, r1, s1, rfl⟩⟩ := jv_slices hjf
      have HG1 := Lib.hid (find_get (x := nVersion) HK7.out HRt.out)
      have HFr1 := Lib.hid (fun h => found_right (j := j) (x := nVersion) h)
      have HFb1 := Lib.hid (found_big (x := nVersion) HBig.out)
      obtain ⟨⟨F1, t1⟩, hF1⟩ : ∃ F, findJ j nVersion = F := ⟨_, rfl⟩
      rw [hF1] at hjf HG1 HFr1 HFb1 ⊢
      have HSf := Lib.hid (info_sz F1 (.slice P1 p1 q1) (.slice R1 r1 s1))
      have HOf := Lib.hid (cellJ_one (j := F1) (un := .slice P1 p1 q1) (uk := .slice R1 r1 s1) ⟨_, _, _, rfl⟩ ⟨_, _, _, rfl⟩)
      have HJf := Lib.hid hjf
      have HQf := Lib.hid hqf
      clear hF1 hjf hqf HC HR0
      go_upto_region 8 with (refine wpList_store_row rfl 46 (.tmp 10) (.tmp 37) rfl X1.heap.size (cellJ F1 (.slice P1 p1 q1) (.slice R1 r1 s1)).toArray rfl rfl 46 _ (heap_alloc_new X1 _) HSf.out rfl HOf.out ?_)
      obtain ⟨W4, hW⟩ : ∃ W, (X1.alloc (.cells #[.int .i64 0, .string ⟨#[]⟩, .slice none 0 0, .slice none 0 0] 46)).setRow X1.heap.size (cellJ F1 (.slice P1 p1 q1) (.slice R1 r1 s1)).toArray = W := ⟨_, rfl⟩
      have hk : W4.heap[X1.heap.size]? = some (.cells (cellJ F1 (.slice P1 p1 q1) (.slice R1 r1 s1)).toArray 46 (0, 0)) := by rw [← hW]; exact setRow_at (heap_alloc_new X1 _) _
      have hqx : Q X1 W4 := by rw [← hW]; exact ((Q.refl X1).alloc _).setRow (Nat.le_refl _) _
      rw [hW]
      obtain ⟨f1, hf⟩ : ∃ f, X1.heap.size = f := ⟨_, rfl⟩
      rw [hf] at hk ⊢
      have HQ4 := Lib.hid (HQ3.out.trans (HQf.out.trans hqx))
      have HRow1 := Lib.hid hk
      have HJ1 := Lib.hid (HJf.out.q hqx)
      clear hW hk hqx hf HSf HOf HJf HQf
      have x0 : W4.cell? ⟨f1, 0, none⟩ = some (.int .i64 F1.kind) := by rw [cell_of_row _ _ _ _ _ _ HRow1.out]; rfl
      have x1 : W4.cell? ⟨f1, 1, none⟩ = some (.string ⟨F1.text.toArray⟩) := by rw [cell_of_row _ _ _ _ _ _ HRow1.out]; rfl
      obtain ⟨ft, hft⟩ : ∃ ft, F1.text = ft := ⟨_, rfl⟩
      have HFt := Lib.hid hft
      rw [hft] at x1
      clear hft
      go_cut [49] (fun v wx => ∃ c : Bool, v = .bool c ∧ W4 = wx ∧ Hid (isTextJ (getJ j nVersion) false [nDate] = !c))
      case first =>
        cases t1 with
        | false =>
          have HX : Hid (isTextJ (getJ j nVersion) false [nDate] = !false) := Lib.hid (by rw [HG1.out]; rfl)
          clear x0 x1
          go_wp2_with fail
          go_meet
          exact ⟨false, rfl, rfl, HX⟩
        | true =>
          by_cases hk5 : F1.kind = 5
          · have g5 : (F1.kind != 5) = false := by simpa using hk5
            by_cases hA : ft = nDate
            · have gA : (ft == [50, 48, 49, 50, 45, 49, 48, 45, 49, 55]) = true := by rw [hA]; decide
              have HX : Hid (isTextJ (getJ j nVersion) false [nDate] = !false) := Lib.hid (by
                rw [HG1.out, if_pos rfl, isText_some, HFt.out]
                simp [hk5, hA])
              clear hk5 hA
              go_wp2_with fail
              go_meet
              exact ⟨false, rfl, rfl, HX⟩
            · have gA : (ft == [50, 48, 49, 50, 45, 49, 48, 45, 49, 55]) = false := by rw [beq_eq_false_iff_ne]; exact hA
              have HX : Hid (isTextJ (getJ j nVersion) false [nDate] = !true) := Lib.hid (by
                rw [HG1.out, if_pos rfl, isText_some, HFt.out]
                simp [hk5, hA])
              clear hk5 hA
              go_wp2_with fail
              go_meet
              exact ⟨true, rfl, rfl, HX⟩
          · have g5 : (F1.kind != 5) = true := by simpa using hk5
            have HX : Hid (isTextJ (getJ j nVersion) false [nDate] = !true) := Lib.hid (by
              rw [HG1.out, if_pos rfl, isText_some]
              simp [hk5])
            clear hk5 x1
            go_wp2_with fail
            go_meet
            exact ⟨true, rfl, rfl, HX⟩
      case rest =>
        obtain ⟨c, rfl, rfl, HIv⟩ := hcut
        clear x0 x1
        cases c with
        | true =>
          have HX : Hid (RPoP O w (.returned (.tuple #[.slice none 0 0, .bool false, .int .i64 0, .int .i64 0])) _) := Lib.hid (by
            rw [HON.out (pol_no (.inl HIv.out))]
            exact ⟨HQ2.out.trans HQ4.out, rfl⟩)
          go_wp2_with fail
          ((try simp only [Exit.inBlock, Exit.then]); refine bodyPost_ret (results_four rfl _ _ _) rfl ?_)
          exact HX.out
        | false =>
          have HC : Hid (Calls Tryz.prog 14 #[.agg (cellJ j (.slice A1 n1 c1) (.slice A2 n2 c2)).toArray, .string ⟨#[73, 100]⟩] W4 (RFindP j nId W4)) := Lib.hid (rFind_any j nId W4 _ _ (HJ.out.q HQ4.out) HBig.out)
          have HR0 := Lib.hid (HQ4.out.block HRow.out)
          go_wp2_with (refine wpList_load_row rfl 46 (.tmp 6) rfl jb rfl 46 (cellJ j (.slice A1 n1 c1) (.slice A2 n2 c2)).toArray (0, 0) _ HR0.out Tryz.underlying46 rfl HSj.out ?_)
          refine HC.out.mono ?_
          rintro e X2 ⟨fn, fk, rfl, hjf, hqf⟩
          obtain ⟨⟨P2, p2, q2, rfl⟩, ⟨R2, r2, s2, rfl⟩⟩ := jv_slices hjf
          have HG2 := Lib.hid (find_get (x := nId) HK7.out HRt.out)
          have HFr2 := Lib.hid (fun h => found_right (j := j) (x := nId) h)
          have HFb2 := Lib.hid (found_big (x := nId) HBig.out)
          obtain ⟨⟨F2, t2⟩, hF2⟩ : ∃ F, findJ j nId = F := ⟨_, rfl⟩
          rw [hF2] at hjf HG2 HFr2 HFb2 ⊢
          have HSf := Lib.hid (info_sz F2 (.slice P2 p2 q2) (.slice R2 r2 s2))
          have HOf := Lib.hid (cellJ_one (j := F2) (un := .slice P2 p2 q2) (uk := .slice R2 r2 s2) ⟨_, _, _, rfl⟩ ⟨_, _, _, rfl⟩)
          have HJf := Lib.hid hjf
          have HQf := Lib.hid hqf
          clear hF2 hjf hqf HC HR0
          go_upto_region 11 with (refine wpList_store_row rfl 46 (.tmp 12) (.tmp 53) rfl X2.heap.size (cellJ F2 (.slice P2 p2 q2) (.slice R2 r2 s2)).toArray rfl rfl 46 _ (heap_alloc_new X2 _) HSf.out rfl HOf.out ?_)
          obtain ⟨W5, hW⟩ : ∃ W, (X2.alloc (.cells #[.int .i64 0, .string ⟨#[]⟩, .slice none 0 0, .slice none 0 0] 46)).setRow X2.heap.size (cellJ F2 (.slice P2 p2 q2) (.slice R2 r2 s2)).toArray = W := ⟨_, rfl⟩
          have hk : W5.heap[X2.heap.size]? = some (.cells (cellJ F2 (.slice P2 p2 q2) (.slice R2 r2 s2)).toArray 46 (0, 0)) := by rw [← hW]; exact setRow_at (heap_alloc_new X2 _) _
          have hqx : Q X2 W5 := by rw [← hW]; exact ((Q.refl X2).alloc _).setRow (Nat.le_refl _) _
          rw [hW]
          obtain ⟨f2, hf⟩ : ∃ f, X2.heap.size = f := ⟨_, rfl⟩
          rw [hf] at hk ⊢
          have HQ5 := Lib.hid (HQ4.out.trans (HQf.out.trans hqx))
          have HRow2 := Lib.hid hk
          have HJ2 := Lib.hid (HJf.out.q hqx)
          clear hW hk hqx hf HSf HOf HJf HQf
          have x0 : W5.cell? ⟨f2, 0, none⟩ = some (.int .i64 F2.kind) := by rw [cell_of_row _ _ _ _ _ _ HRow2.out]; rfl
          go_cut [60] (fun v wx => ∃ c : Bool, v = .bool c ∧ W5 = wx ∧ Hid (isTextJ (getJ j nId) false [] = !c))
          case first =>
            cases t2 with
            | false =>
              have HX : Hid (isTextJ (getJ j nId) false [] = !false) := Lib.hid (by rw [HG2.out]; rfl)
              clear x0
              go_wp2_with fail
              go_meet
              exact ⟨false, rfl, rfl, HX⟩
            | true =>
              by_cases hk5 : F2.kind = 5
              · have g5 : (F2.kind != 5) = false := by simpa using hk5
                have HX : Hid (isTextJ (getJ j nId) false [] = !false) := Lib.hid (by
                  rw [HG2.out, if_pos rfl, isText_some]
                  simp [hk5])
                clear hk5
                go_wp2_with fail
                go_meet
                exact ⟨false, rfl, rfl, HX⟩
              · have g5 : (F2.kind != 5) = true := by simpa using hk5
                have HX : Hid (isTextJ (getJ j nId) false [] = !true) := Lib.hid (by
                  rw [HG2.out, if_pos rfl, isText_some]
                  simp [hk5])
                clear hk5
                go_wp2_with fail
                go_meet
                exact ⟨true, rfl, rfl, HX⟩
          case rest =>
            obtain ⟨c, rfl, rfl, HIi⟩ := hcut
            clear x0
            cases c with
            | true =>
              have HX : Hid (RPoP O w (.returned (.tuple #[.slice none 0 0, .bool false, .int .i64 0, .int .i64 0])) _) := Lib.hid (by
                rw [HON.out (pol_no (.inr HIi.out))]
                exact ⟨HQ2.out.trans HQ5.out, rfl⟩)
              go_wp2_with fail
              ((try simp only [Exit.inBlock, Exit.then]); refine bodyPost_ret (results_four rfl _ _ _) rfl ?_)
              exact HX.out
            | false =>
              have HC : Hid (Calls Tryz.prog 14 #[.agg (cellJ j (.slice A1 n1 c1) (.slice A2 n2 c2)).toArray, .string ⟨#[83, 116, 97, 116, 101, 109, 101, 110, 116]⟩] W5 (RFindP j nStatement W5)) := Lib.hid (rFind_any j nStatement W5 _ _ (HJ.out.q HQ5.out) HBig.out)
              have HR0 := Lib.hid (HQ5.out.block HRow.out)
              go_wp2_with (refine wpList_load_row rfl 46 (.tmp 6) rfl jb rfl 46 (cellJ j (.slice A1 n1 c1) (.slice A2 n2 c2)).toArray (0, 0) _ HR0.out Tryz.underlying46 rfl HSj.out ?_)
              refine HC.out.mono ?_
              rintro e X3 ⟨fn, fk, rfl, hjf, hqf⟩
              obtain ⟨⟨P3, p3, q3, rfl⟩, ⟨R3, r3, s3, rfl⟩⟩ := jv_slices hjf
              have HG3 := Lib.hid (find_get (x := nStatement) HK7.out HRt.out)
              have HFr3 := Lib.hid (fun h => found_right (j := j) (x := nStatement) h)
              have HFb3 := Lib.hid (found_big (x := nStatement) HBig.out)
              obtain ⟨⟨F3, t3⟩, hF3⟩ : ∃ F, findJ j nStatement = F := ⟨_, rfl⟩
              rw [hF3] at hjf HG3 HFr3 HFb3 ⊢
              have HSf := Lib.hid (info_sz F3 (.slice P3 p3 q3) (.slice R3 r3 s3))
              have HOf := Lib.hid (cellJ_one (j := F3) (un := .slice P3 p3 q3) (uk := .slice R3 r3 s3) ⟨_, _, _, rfl⟩ ⟨_, _, _, rfl⟩)
              have HJf := Lib.hid hjf
              have HQf := Lib.hid hqf
              clear hF3 hjf hqf HC HR0
              go_upto_region 14 with (refine wpList_store_row rfl 46 (.tmp 13) (.tmp 64) rfl X3.heap.size (cellJ F3 (.slice P3 p3 q3) (.slice R3 r3 s3)).toArray rfl rfl 46 _ (heap_alloc_new X3 _) HSf.out rfl HOf.out ?_)
              obtain ⟨W6, hW⟩ : ∃ W, (X3.alloc (.cells #[.int .i64 0, .string ⟨#[]⟩, .slice none 0 0, .slice none 0 0] 46)).setRow X3.heap.size (cellJ F3 (.slice P3 p3 q3) (.slice R3 r3 s3)).toArray = W := ⟨_, rfl⟩
              have hk : W6.heap[X3.heap.size]? = some (.cells (cellJ F3 (.slice P3 p3 q3) (.slice R3 r3 s3)).toArray 46 (0, 0)) := by rw [← hW]; exact setRow_at (heap_alloc_new X3 _) _
              have hqx : Q X3 W6 := by rw [← hW]; exact ((Q.refl X3).alloc _).setRow (Nat.le_refl _) _
              rw [hW]
              obtain ⟨f3, hf⟩ : ∃ f, X3.heap.size = f := ⟨_, rfl⟩
              rw [hf] at hk ⊢
              have HQ6 := Lib.hid (HQ5.out.trans (HQf.out.trans hqx))
              have HRow3 := Lib.hid hk
              have HJ3 := Lib.hid (HJf.out.q hqx)
              clear hW hk hqx hf HSf HOf HJf HQf
              obtain ⟨k3, x3t, ns3, ks3⟩ := F3
              obtain ⟨RA, rc, hre, hrc1, hrc2, hk3⟩ := HJ3.out.kidAt
              injection hre with e1 e2 e3
              subst e1 e2 e3
              have HK3 := Lib.hid hk3
              clear hk3
              iterate 8 go_step
              go_cut [14] (fun v wx => ∃ (A : Option Addr) (c : Nat) (L : List JsonD), v = .slice A L.length c ∧ Hid (L = allJ (getJ j nStatement)) ∧ Hid (∀ i, i < L.length → ∃ g off un uk, KidAt wx L A i g off un uk) ∧ Hid (L.length ≤ 8000 ∧ ∀ i, i < L.length → rtB (gK L i) 20 8000 = true ∧ bigJ 9223372036854775807 (gK L i)) ∧ Hid (Q W2 wx))
              case first =>
                have x0 : W6.cell? ⟨f3, 0, none⟩ = some (.int .i64 k3) := by rw [cell_of_row _ _ _ _ _ _ HRow3.out]; rfl
                have x3 : W6.cell? ⟨f3, 3, none⟩ = some (.slice R3 ks3.length s3) := by rw [cell_of_row _ _ _ _ _ _ HRow3.out]; rfl
                have HNil : Hid (∀ i, i < ([] : List JsonD).length → ∃ g off un uk, KidAt W6 [] none i g off un uk) := Lib.hid (fun i h => absurd h (by simp))
                have HNil2 : Hid (([] : List JsonD).length ≤ 8000 ∧ ∀ i, i < ([] : List JsonD).length → rtB (gK [] i) 20 8000 = true ∧ bigJ 9223372036854775807 (gK [] i)) := Lib.hid ⟨by simp, fun i h => absurd h (by simp)⟩
                cases t3 with
                | false =>
                  have HL : Hid ([] = allJ (getJ j nStatement)) := Lib.hid (by rw [HG3.out]; rfl)
                  clear x0 x3
                  go_wp2_with fail
                  go_meet
                  exact ⟨none, 0, [], rfl, HL, HNil, HNil2, HQ6⟩
                | true =>
                  have HR3 := Lib.hid (HFr3.out rfl)
                  by_cases h7 : k3 = 7
                  · subst h7
                    have HL : Hid ([.mk 7 x3t ns3 ks3] = allJ (getJ j nStatement)) := Lib.hid (by rw [HG3.out]; rfl)
                    have HSz3 := Lib.hid (info_sz (.mk 7 x3t ns3 ks3) (.slice P3 p3 q3) (.slice R3 ks3.length s3))
                    have HK : Hid (∀ i, i < ([.mk 7 x3t ns3 ks3] : List JsonD).length → ∃ g off un uk, KidAt (W6.alloc (.cells (cellJ (.mk 7 x3t ns3 ks3) (.slice P3 p3 q3) (.slice R3 ks3.length s3)).toArray 46)) [.mk 7 x3t ns3 ks3] (some ⟨W6.heap.size, 0, none⟩) i g off un uk) := Lib.hid (fun i h => by
                      have : i = 0 := by simp at h; omega
                      subst this
                      refine ⟨W6.heap.size, 0, _, _, rfl, fun m u hu => ?_, HJ3.out.q ((Q.refl W6).alloc _)⟩
                      rw [cell_of_row _ _ _ _ _ _ (heap_alloc_new W6 _)]
                      rw [show 0 + 0 * 4 + m = m by omega]
                      rw [← Array.getElem?_toList]
                      exact hu)
                    have HB : Hid (([.mk 7 x3t ns3 ks3] : List JsonD).length ≤ 8000 ∧ ∀ i, i < ([.mk 7 x3t ns3 ks3] : List JsonD).length → rtB (gK [.mk 7 x3t ns3 ks3] i) 20 8000 = true ∧ bigJ 9223372036854775807 (gK [.mk 7 x3t ns3 ks3] i)) := Lib.hid ⟨by simp, fun i h => by
                      have : i = 0 := by simp at h; omega
                      subst this
                      exact ⟨HR3.out, HFb3.out⟩⟩
                    have HQa : Hid (Q W2 (W6.alloc (.cells (cellJ (.mk 7 x3t ns3 ks3) (.slice P3 p3 q3) (.slice R3 ks3.length s3)).toArray 46))) := Lib.hid (HQ6.out.alloc _)
                    have HRow3b : Hid (W6.heap[f3]? = some (.cells #[.int .i64 7, .string ⟨x3t.toArray⟩, .slice P3 p3 q3, .slice R3 ks3.length s3] 46 (0, 0))) := Lib.hid HRow3.out
                    have HSz3b : Hid ((Tryz.prog.info? 46).map (·.size) = some (#[Value.int .i64 7, .string ⟨x3t.toArray⟩, .slice P3 p3 q3, .slice R3 ks3.length s3]).size) := Lib.hid HSz3.out
                    clear x3
                    go_wp2_with (refine wpList_load_row rfl 46 (.tmp 13) rfl f3 rfl 46 #[.int .i64 7, .string ⟨x3t.toArray⟩, .slice P3 p3 q3, .slice R3 ks3.length s3] (0, 0) _ HRow3b.out Tryz.underlying46 rfl HSz3b.out ?_)
                    go_meet
                    exact ⟨_, 1, _, rfl, HL, HK, HB, HQa⟩
                  · by_cases h6 : k3 = 6
                    · subst h6
                      have HL : Hid (ks3 = allJ (getJ j nStatement)) := Lib.hid (by rw [HG3.out]; rfl)
                      have HB : Hid (ks3.length ≤ 8000 ∧ ∀ i, i < ks3.length → rtB (gK ks3 i) 20 8000 = true ∧ bigJ 9223372036854775807 (gK ks3 i)) := Lib.hid ⟨by
                        have h1 := cnt_len ks3
                        have h2 := (rt_wf HR3.out).2
                        rw [cntJ] at h2
                        omega, fun i h => ⟨kid_right HR3.out h, by
                        have h2 := HFb3.out
                        rw [bigJ] at h2
                        exact bigKs_gK h2.2.2 h⟩⟩
                      clear h7
                      go_wp2_with fail
                      go_meet
                      exact ⟨_, _, ks3, rfl, HL, HK3, HB, HQ6⟩
                    · have g7 : (k3 == 7) = false := by simpa using h7
                      have g6 : (k3 == 6) = false := by simpa using h6
                      have HL : Hid ([] = allJ (getJ j nStatement)) := Lib.hid (by
                        rw [HG3.out, if_pos rfl]
                        show [] = (if k3 = 6 then ks3 else if k3 = 7 then [JsonD.mk k3 x3t ns3 ks3] else [])
                        rw [if_neg h6, if_neg h7])
                      clear h6 h7 x3
                      go_wp2_with fail
                      go_meet
                      exact ⟨none, 0, [], rfl, HL, HNil, HNil2, HQ6⟩
              case rest =>
                obtain ⟨A, c, L, rfl, HL, HKd, HLb, HQ7⟩ := hcut
                rename World => W7
                have hL8 := HLb.out.1
                by_cases h1 : L.length < 1
                · have g1 : decide ((L.length : Int) < 1) = true := by simp; omega
                  have HNo := Lib.hid (pol_len HL.out (fun h => by omega))
                  clear h1
                  have HX : Hid (RPoP O w (.returned (.tuple #[.slice none 0 0, .bool false, .int .i64 0, .int .i64 0])) _) := Lib.hid (by
                    rw [HON.out HNo.out]
                    exact ⟨HQ2.out.trans HQ7.out, rfl⟩)
                  go_wp2_with fail
                  ((try simp only [Exit.inBlock, Exit.then]); refine bodyPost_ret (results_four rfl _ _ _) rfl ?_)
                  exact HX.out
                · have g1 : decide ((L.length : Int) < 1) = false := by simp; omega
                  by_cases h2 : 10 < L.length
                  · have g2 : decide ((10 : Int) < (L.length : Int)) = true := by simp; omega
                    have HNo := Lib.hid (pol_len HL.out (fun h => by omega))
                    clear h1 h2
                    have HX : Hid (RPoP O w (.returned (.tuple #[.slice none 0 0, .bool false, .int .i64 0, .int .i64 0])) _) := Lib.hid (by
                      rw [HON.out HNo.out]
                      exact ⟨HQ2.out.trans HQ7.out, rfl⟩)
                    go_wp2_with fail
                    ((try simp only [Exit.inBlock, Exit.then]); refine bodyPost_ret (results_four rfl _ _ _) rfl ?_)
                    exact HX.out
                  · have g2 : decide ((10 : Int) < (L.length : Int)) = false := by simp; omega
                    have HLen : Hid (1 ≤ L.length ∧ L.length ≤ 10) := Lib.hid (by omega)
                    clear h1 h2
                    go_wp2_with fail
                    clear g1 g2
                    go_loopg [15, 16] (L.length + 1) (fun gk v i wx => ∃ (q : Nat) (l : List StmtD), gk = L.length - q + 1 ∧ q ≤ L.length ∧ i = .int .i64 (q : Int) ∧ l.length = q ∧ Hid (stmtsJ (L.take q) = some l) ∧ Hid (∃ cells, CpS W7.heap.size l wx v cells) ∧ Hid (Q W7 wx))
                    case atStart => exact ⟨0, [], rfl, by omega, rfl, rfl, Lib.hid rfl, Lib.hid ⟨_, CpS.start _ _⟩, Lib.hid (Q.refl W7)⟩
                    case round =>
                      obtain ⟨q, l, rfl, hq, rfl, hlq, HSt, HI, HQI⟩ := hrel
                      rename World => wa
                      have HLq := Lib.hid hlq
                      obtain ⟨cells, hC⟩ := HI.out
                      obtain ⟨Ak, ck, hvk, hn7, hn8, -⟩ := row_cells hC.krow hC.krow.1
                      rw [hlq] at hvk hn7
                      subst hvk
                      have HC := Lib.hid hC
                      clear hlq hC HI
                      by_cases hlt : q < L.length
                      · have hdq : decide (q < L.length) = true := by simpa using hlt
                        obtain ⟨g, off, un, uk, hA⟩ := HKd.out q hlt
                        obtain rfl := hA.a
                        have HRg : Hid (wa.rangeAt g (off + q * 4) (cellJ (gK L q) un uk)) := Lib.hid (fun m u hu => HQI.out.cell (hA.rg m u hu))
                        have HIn : Hid ((Tryz.prog.info? 46).map (·.size) = some (cellJ (gK L q) un uk).length) := Lib.hid (info_sz (gK L q) un uk)
                        have HCl := Lib.hid (rstatement_any (gK L q) wa un uk (hA.jv.q HQI.out) (HLb.out.2 q hlt).1 (HLb.out.2 q hlt).2)
                        obtain ⟨os, hos⟩ : ∃ os, stmtJ (gK L q) = os := ⟨_, rfl⟩
                        have HOs := Lib.hid hos
                        rw [hos] at HCl
                        clear hA hos
                        go_wp2_with (refine wpList_load_mid rfl 46 (.tmp 101) rfl g (off + q * 4) rfl (cellJ (gK L q) un uk) _ HRg.out Tryz.underlying46 rfl HIn.out ?_; simp only [Act.put, List.setIfInBounds_toArray, List.set_cons_succ, List.set_cons_zero])
                        refine HCl.out.mono ?_
                        rintro e w1 ⟨hq1, al, v1, v2, v3, he, ⟨V1, m1, k1, rfl⟩, ⟨V2, m2, k2, rfl⟩, ⟨V3, m3, k3, rfl⟩, hst⟩
                        have HQ1 := Lib.hid hq1
                        have HSv := Lib.hid hst
                        have HSz := Lib.hid (info_stmt (.slice V1 m1 k1) (.slice V2 m2 k2) (.slice V3 m3 k3) al)
                        have HOne := Lib.hid (stm_one al (v1 := .slice V1 m1 k1) (v2 := .slice V2 m2 k2) (v3 := .slice V3 m3 k3) ⟨_, _, _, rfl⟩ ⟨_, _, _, rfl⟩ ⟨_, _, _, rfl⟩)
                        clear hq1 hst HCl HRg HIn
                        cases os with
                        | none =>
                          have he2 : e = .returned (.tuple #[.agg #[.bool al, .slice V1 m1 k1, .slice V2 m2 k2, .slice V3 m3 k3], .bool false]) := he
                          subst he2
                          have HNo := Lib.hid (pol_st HL.out (by rw [drop_gK L q hlt]; exact stmts_no _ _ _ HOs.out))
                          have HQe : Hid (Q W2 (((w1.alloc (.cells #[.bool false, .slice none 0 0, .slice none 0 0, .slice none 0 0] 41)).setRow w1.heap.size #[.bool al, .slice V1 m1 k1, .slice V2 m2 k2, .slice V3 m3 k3]))) := Lib.hid (HQ7.out.trans (HQI.out.trans (HQ1.out.trans (((Q.refl w1).alloc _).setRow (Nat.le_refl _) _))))
                          go_upto_region 26 with (refine wpList_store_row rfl 41 (.tmp 17) (.tmp 104) rfl w1.heap.size #[.bool al, .slice V1 m1 k1, .slice V2 m2 k2, .slice V3 m3 k3] rfl rfl 41 _ (heap_alloc_new w1 _) HSz.out rfl HOne.out ?_)
                          have HX : Hid (RPoP O w (.returned (.tuple #[.slice none 0 0, .bool false, .int .i64 0, .int .i64 0])) _) := Lib.hid (by
                            rw [HON.out HNo.out]
                            exact ⟨HQ2.out.trans HQe.out, rfl⟩)
                          go_wp2_with fail
                          ((try simp only [Exit.inBlock, Exit.then]); refine bodyPost_ret (results_four rfl _ _ _) rfl ?_)
                          exact HX.out
                        | some st =>
                          have he2 : e = .returned (.tuple #[.agg #[.bool al, .slice V1 m1 k1, .slice V2 m2 k2, .slice V3 m3 k3], .bool true]) := he
                          subst he2
                          go_upto_region 26 with (refine wpList_store_row rfl 41 (.tmp 17) (.tmp 104) rfl w1.heap.size #[.bool al, .slice V1 m1 k1, .slice V2 m2 k2, .slice V3 m3 k3] rfl rfl 41 _ (heap_alloc_new w1 _) HSz.out rfl HOne.out ?_)
                          obtain ⟨W8, hW8⟩ : ∃ W8, (w1.alloc (.cells #[.bool false, .slice none 0 0, .slice none 0 0, .slice none 0 0] 41)).setRow w1.heap.size #[.bool al, .slice V1 m1 k1, .slice V2 m2 k2, .slice V3 m3 k3] = W8 := ⟨_, rfl⟩
                          have hk8 : W8.heap[w1.heap.size]? = some (.cells #[.bool al, .slice V1 m1 k1, .slice V2 m2 k2, .slice V3 m3 k3] 41 (0, 0)) := by rw [← hW8]; exact setRow_at (heap_alloc_new w1 _) _
                          have hq8 : Q w1 W8 := by rw [← hW8]; exact ((Q.refl w1).alloc _).setRow (Nat.le_refl _) _
                          rw [hW8]
                          obtain ⟨N, hN⟩ : ∃ N, w1.heap.size = N := ⟨_, rfl⟩
                          rw [hN] at hk8 ⊢
                          have HK8 := Lib.hid hk8
                          have HQ8 := Lib.hid hq8
                          clear hk8 hq8 hW8 hN
                          obtain ⟨ti, hi, hz0, hz1, hz2⟩ := info_parts info_stm3
                          have hq6 : Q w1 (W8.alloc (.cells #[.bool al, .slice V1 m1 k1, .slice V2 m2 k2, .slice V3 m3 k3] 41)) := HQ8.out.alloc _
                          have hq7 : Q wa (W8.alloc (.cells #[.bool al, .slice V1 m1 k1, .slice V2 m2 k2, .slice V3 m3 k3] 41)) := HQ1.out.trans hq6
                          have hkr := ownsRow_frame HC.out.krow (fun i _ h => Below.block hq7 i h)
                          rw [HLq.out] at hkr
                          have ha1 : ∀ m u, ([.bool al, .slice V1 m1 k1, .slice V2 m2 k2, .slice V3 m3 k3] : List Value)[m]? = some u → (W8.alloc (.cells #[.bool al, .slice V1 m1 k1, .slice V2 m2 k2, .slice V3 m3 k3] 41)).cell? ((⟨W8.heap.size, 0, none⟩ : Addr).add m) = some u := by
                            intro m u hm
                            rw [add_off, Nat.zero_add, cell_of_row _ _ _ _ _ _ (heap_alloc_new W8 _)]
                            simpa using hm
                          have ha2 : ∀ u ∈ ([.bool al, .slice V1 m1 k1, .slice V2 m2 k2, .slice V3 m3 k3] : List Value), u.oneCell' = true := by
                            intro u hu; simp at hu; rcases hu with rfl | rfl | rfl | rfl <;> rfl
                          have HA := Lib.hid (And.intro hkr (And.intro ha1 ha2))
                          have HI4 := Lib.hid (And.intro hi (And.intro hz0 (And.intro hz1 hz2)))
                          have HBs : Hid (W7.heap.size ≤ (W8.alloc (.cells #[.bool al, .slice V1 m1 k1, .slice V2 m2 k2, .slice V3 m3 k3] 41)).heap.size) := Lib.hid (by have := hq7.size; have := HQI.out.size; omega)
                          have HQ66 := Lib.hid hq6
                          have HQ77 := Lib.hid hq7
                          clear hkr ha1 ha2 hi hz0 hz1 hz2 hq6 hq7
                          go_wp2_with (first | refine wpList_load_row rfl 41 (.tmp 17) rfl N rfl 41 #[.bool al, .slice V1 m1 k1, .slice V2 m2 k2, .slice V3 m3 k3] (0, 0) _ HK8.out Tryz.underlying41 rfl HSz.out ?_ | (at_builtin; refine wpList_append_own_at (w := W8.alloc (.cells #[.bool al, .slice V1 m1 k1, .slice V2 m2 k2, .slice V3 m3 k3] 41)) rfl (.tmp 108) (.tmp 110) 23 rfl W7.heap.size 41 ti _ 4 80 Tryz.underlying23 HI4.out.1 HI4.out.2.1 HI4.out.2.2.1 HI4.out.2.2.2 rfl (by decide) (.slice Ak q ck) q cells rfl HA.out.1 ⟨W8.heap.size, 0, none⟩ 1 1 [.bool al, .slice V1 m1 k1, .slice V2 m2 k2, .slice V3 m3 k3] rfl rfl HA.out.2.1 HA.out.2.2 (by unfold maxLen; omega) (by omega) HBs.out ?_; intro v' w4 hrow hgrow _ hob; have HRow9 := Lib.hid hrow; have HGrow := Lib.hid hgrow; have HOb := Lib.hid hob; clear hrow hgrow hob))
                          obtain ⟨hal, hs1, hs2, hs3⟩ := HSv.out st rfl
                          have HM : Hid (∃ cells', CpS W7.heap.size (l ++ [st]) w4 v' cells') := Lib.hid (by
                            have hr := HRow9.out
                            have e : ([.bool al, .slice V1 m1 k1, .slice V2 m2 k2, .slice V3 m3 k3] : List Value) = stmC st (.slice V1 m1 k1) (.slice V2 m2 k2) (.slice V3 m3 k3) := by unfold stmC; rw [hal]
                            rw [e, ← HLq.out] at hr
                            exact ⟨_, HC.out.push HQ77.out (hs1.q HQ66.out) (hs2.q HQ66.out) (hs3.q HQ66.out) HGrow.out hr⟩)
                          have HQn : Hid (Q W7 w4) := Lib.hid (Q.below (HQI.out.trans HQ77.out) ⟨HGrow.out.os, HGrow.out.tape, HGrow.out.output, by have := HGrow.out.size; have := (HQI.out.trans HQ77.out).size; omega, fun i hi => HGrow.out.block i (Nat.lt_of_lt_of_le hi (HQI.out.trans HQ77.out).size) (fun e => by have := (ownsRow_base HC.out.krow e.symm).1; omega)⟩)
                          have HSn : Hid (stmtsJ (L.take (q + 1)) = some (l ++ [st])) := Lib.hid (by rw [gK_take L q hlt]; exact stmts_snoc _ _ HSt.out HOs.out)
                          clear hal hs1 hs2 hs3
                          go_roundg (L.length - (q + 1) + 1)
                          case measure => omega
                          case rel => exact ⟨q + 1, l ++ [st], rfl, by omega, by simp, by rw [List.length_append, HLq.out]; rfl, HSn, HM, HQn⟩
                      · have hdq : decide (q < L.length) = false := by simpa using hlt
                        have he : q = L.length := by omega
                        have HX : Hid (RPoP O w (.returned (.tuple #[.slice Ak q ck, .bool true, .int .i64 0, .int .i64 0])) wa) := Lib.hid (by
                          have h := HSt.out
                          rw [he, List.take_of_length_le (Nat.le_refl _)] at h
                          rw [HOK.out l (pol_yes HL.out HO1.out HIv.out HIi.out HLen.out h)]
                          refine ⟨HQ2.out.trans (HQ7.out.trans HQI.out), Ak, ck, ?_, ?_⟩
                          · rw [HLq.out]
                          · have := HC.out.read
                            rwa [← HLq.out] at this)
                        clear hlt he
                        go_wp2_with fail
                        ((try simp only [Exit.inBlock, Exit.then]); refine bodyPost_ret (results_four rfl _ _ _) rfl ?_)
                        exact HX.out
end Go.Proofs.YtlhhiiemojhjdaaGreatDoor
set_option linter.unusedVariables false
set_option linter.unusedSimpArgs false
namespace Go.Proofs.YtlhhiiemojhjdaaGreatDoor
open Go Go.RowKit
def TxR (base : Nat) (W : World) (v : Value) : Prop := ∃ A n c, v = .slice A n c ∧ n ≤ 9223372036854775807 ∧ (0 < n → ∃ b cs, A = some ⟨b, 0, none⟩ ∧ base ≤ b ∧ W.heap[b]? = some (.cells cs 9 (0, 0)) ∧ n ≤ cs.size)
theorem TxR.of {base : Nat} {w : World} {v : Value} {ls : List Txt} (h : OwnTx base w v ls) : TxR base w v := by
  rcases h.2 with ⟨hv, h0⟩ | ⟨g, cap, cur, hv, h1, h2, h3, h4, h5, h6⟩
  · exact ⟨none, 0, 0, hv, by omega, fun h => by omega⟩
  · exact ⟨_, _, cap, hv, Nat.le_trans h3 (Nat.le_trans h4 (by decide)), fun _ => ⟨g, cur, rfl, h1, h2, by omega⟩⟩
theorem TxR.str {base : Nat} {w : World} {v : Value} (h : TxR base w v) {b i : Nat} {cs : Array Value} (hb : w.heap[b]? = some (.cells cs 9 (0, 0))) (u : Value) : TxR base (w.setCell ⟨b, i, none⟩ u) v := by
  obtain ⟨A, n, c, hv, hn, h1⟩ := h
  refine ⟨A, n, c, hv, hn, fun h0 => ?_⟩
  obtain ⟨d, ds, e, h2, h3, h4⟩ := h1 h0
  by_cases hd : d = b
  · subst hd
    rw [h3] at hb
    injection hb with hb
    injection hb with hb
    subst hb
    exact ⟨d, _, e, h2, heap_setCell_any w d i _ _ _ u h3, by simpa using h4⟩
  · exact ⟨d, ds, e, h2, by rw [heap_setCell_other w ⟨b, i, none⟩ d u hd]; exact h3, h4⟩
theorem TxR.stm {base : Nat} {w : World} {v : Value} (h : TxR base w v) {g i : Nat} {cs : Array Value} (hb : w.heap[g]? = some (.cells cs 41 (0, 0))) (u : Value) : TxR base (w.setCell ⟨g, i, none⟩ u) v := by
  obtain ⟨A, n, c, hv, hn, h1⟩ := h
  refine ⟨A, n, c, hv, hn, fun h0 => ?_⟩
  obtain ⟨d, ds, e, h2, h3, h4⟩ := h1 h0
  have hd : d ≠ g := by
    intro e2
    subst e2
    rw [h3] at hb
    injection hb with hb
    injection hb with _ hb _
    exact absurd hb (by decide)
  exact ⟨d, ds, e, h2, by rw [heap_setCell_other w ⟨g, i, none⟩ d u hd]; exact h3, h4⟩
def SpI (base n g : Nat) (cur0 : Array Value) (W : World) : Prop := ∃ cur : Array Value, W.heap[g]? = some (.cells cur 41 (0, 0)) ∧ cur.size = cur0.size ∧ n * 4 ≤ cur.size ∧ ∀ i, i < n → cur[i * 4 + 1]? = cur0[i * 4 + 1]? ∧ cur[i * 4 + 2]? = cur0[i * 4 + 2]? ∧
  (∀ v, cur0[i * 4 + 1]? = some v → TxR base W v) ∧ (∀ v, cur0[i * 4 + 2]? = some v → TxR base W v)
theorem SpI.str {base n g : Nat} {cur0 : Array Value} {w : World} (h : SpI base n g cur0 w) {b i : Nat} {cs : Array Value} (hb : w.heap[b]? = some (.cells cs 9 (0, 0))) (u : Value) : SpI base n g cur0 (w.setCell ⟨b, i, none⟩ u) := by
  obtain ⟨cur, h1, h2, h3, h4⟩ := h
  have hg : g ≠ b := by
    intro e2
    subst e2
    rw [h1] at hb
    injection hb with hb
    injection hb with _ hb _
    exact absurd hb (by decide)
  refine ⟨cur, by rw [heap_setCell_other w ⟨b, i, none⟩ g u hg]; exact h1, h2, h3, fun k hk => ?_⟩
  obtain ⟨k1, k2, k3, k4⟩ := h4 k hk
  exact ⟨k1, k2, fun v hv => (k3 v hv).str hb u, fun v hv => (k4 v hv).str hb u⟩
theorem SpI.res {base n g : Nat} {cur0 : Array Value} {w : World} (h : SpI base n g cur0 w) (q : Nat) (u : Value) : SpI base n g cur0 (w.setCell ⟨g, q * 4 + 3, none⟩ u) := by
  obtain ⟨cur, h1, h2, h3, h4⟩ := h
  refine ⟨_, heap_setCell_any w g (q * 4 + 3) _ _ _ u h1, by simpa using h2, by simpa using h3, fun k hk => ?_⟩
  obtain ⟨k1, k2, k3, k4⟩ := h4 k hk
  refine ⟨?_, ?_, fun v hv => (k3 v hv).stm h1 u, fun v hv => (k4 v hv).stm h1 u⟩
  · rw [Array.getElem?_setIfInBounds_ne (by omega)]; exact k1
  · rw [Array.getElem?_setIfInBounds_ne (by omega)]; exact k2
set_option maxRecDepth 100000 in
set_option maxHeartbeats 8000000 in
theorem spoil18_any (base : Nat) (l : List StmtD) (w : World) (v : Value) (h : StO base w v l) (hbs : base ≤ w.heap.size) : Calls Tryz.prog 8 #[v] w fun e w' => e = .returned (.tuple #[]) ∧ Below base w w' := by
  obtain ⟨cells, hrow, hsk⟩ := h
  obtain ⟨A, c, hv, hc1, hc2, -⟩ := row_cells hrow hrow.1
  have hnl : l.length ≤ 9223372036854775807 := Nat.le_trans hc1 (Nat.le_trans hc2 (by decide))
  have HG : Hid (0 < l.length → ∃ g cur0, v = .slice (some ⟨g, 0, none⟩) l.length c ∧ base ≤ g ∧ SpI base l.length g cur0 w ∧ (∀ i, i < l.length → (∃ x, cur0[i * 4 + 1]? = some x) ∧ (∃ x, cur0[i * 4 + 2]? = some x) ∧ i * 4 + 3 < cur0.size)) := Lib.hid (fun h0 => by
    rcases hrow.2 with ⟨_, h⟩ | ⟨g, cap, cur, h1, h2, h3, h4, h5, h6, h7⟩
    · omega
    · have e := hv.symm.trans h1
      injection e with e1 _ e2
      have hk : ∀ i m u, i < l.length → m < 4 → cells[i * 4 + m]? = some u → cur[i * 4 + m]? = some u := fun i m u hi hm hu => by
        rw [← h7, List.getElem?_take] at hu
        split at hu
        · rw [← Array.getElem?_toList]; exact hu
        · cases hu
      refine ⟨g, cur, by rw [hv, e1], h2, ⟨cur, h3, rfl, by omega, fun i hi => ⟨rfl, rfl, fun x hx => ?_, fun x hx => ?_⟩⟩, fun i hi => ?_⟩
      · obtain ⟨va, vb, vc, k1, k2, k3, k4⟩ := hsk.at hi
        have := hk i 1 va hi (by omega) (k4 1 _ rfl)
        rw [this] at hx; injection hx with hx; subst hx
        exact TxR.of k1
      · obtain ⟨va, vb, vc, k1, k2, k3, k4⟩ := hsk.at hi
        have := hk i 2 vb hi (by omega) (k4 2 _ rfl)
        rw [this] at hx; injection hx with hx; subst hx
        exact TxR.of k2
      · obtain ⟨va, vb, vc, k1, k2, k3, k4⟩ := hsk.at hi
        refine ⟨⟨_, hk i 1 va hi (by omega) (k4 1 _ rfl)⟩, ⟨_, hk i 2 vb hi (by omega) (k4 2 _ rfl)⟩, ?_⟩
        have := hk i 3 vc hi (by omega) (k4 3 _ rfl)
        have := (Array.getElem?_eq_some_iff.1 this).1
        exact this)
  subst hv
  clear hrow hsk
  go_enter Tryz.func8, Tryz.ntmps8
  go_wp2_with fail
  go_loopg [2] (l.length + 1) (fun gk i wx => ∃ q : Nat, gk = l.length - q + 1 ∧ q ≤ l.length ∧ i = .int .i64 (q : Int) ∧ Hid (0 < l.length → ∃ g cur0, Value.slice A l.length c = .slice (some ⟨g, 0, none⟩) l.length c ∧ base ≤ g ∧ SpI base l.length g cur0 wx ∧ (∀ i, i < l.length → (∃ x, cur0[i * 4 + 1]? = some x) ∧ (∃ x, cur0[i * 4 + 2]? = some x) ∧ i * 4 + 3 < cur0.size)) ∧ Hid (Below base w wx))
  case atStart => exact ⟨0, rfl, by omega, rfl, HG, Lib.hid (Below.refl _ _)⟩
  case round =>
    obtain ⟨q, rfl, hq, rfl, HI, HBw⟩ := hrel
    rename World => wa
    by_cases hlt : q < l.length
    · have hdq : decide (q < l.length) = true := by simpa using hlt
      have hqp : q < l.length := hlt
      obtain ⟨g, cur0, hve, hg, hsp, hcx⟩ := HI.out (by omega)
      injection hve with hve
      subst hve
      obtain ⟨⟨va, hva⟩, ⟨vb, hvb⟩, hr3⟩ := hcx q hlt
      have HGb := Lib.hid hg
      have HC0 := Lib.hid hsp
      have HCx := Lib.hid hcx
      have HR : Hid (∀ W, SpI base l.length g cur0 W → W.cell? ⟨g, q * 4 + 1, none⟩ = some va ∧ W.cell? ⟨g, q * 4 + 2, none⟩ = some vb ∧ (∃ x, W.cell? ⟨g, q * 4 + 3, none⟩ = some x) ∧ W.frozen? ⟨g, q * 4 + 3, none⟩ = false ∧ TxR base W va ∧ TxR base W vb) := Lib.hid (fun W h => by
        obtain ⟨cur, h1, h2, h3, h4⟩ := h
        obtain ⟨k1, k2, k3, k4⟩ := h4 q hlt
        refine ⟨?_, ?_, ⟨cur[q * 4 + 3]'(by rw [h2]; exact hr3), ?_⟩, frozen_of_row W g _ _ _ h1, k3 _ hva, k4 _ hvb⟩
        · rw [cell_of_row _ _ _ _ _ _ h1, k1]; exact hva
        · rw [cell_of_row _ _ _ _ _ _ h1, k2]; exact hvb
        · rw [cell_of_row _ _ _ _ _ _ h1]; exact Array.getElem?_eq_getElem (by rw [h2]; exact hr3))
      obtain ⟨⟨Aa, na, ca, rfl, hna, -⟩, ⟨Ab, nb, cb, rfl, hnb, -⟩⟩ := (HR.out wa HC0.out).2.2.2.2
      clear hva hvb hcx hsp hg hr3 HI
      go_wp2_with fail
      go_loopg [3] (na + 1) (fun gk i wx => ∃ m : Nat, gk = na - m + 1 ∧ m ≤ na ∧ i = .int .i64 (m : Int) ∧ Hid (SpI base l.length g cur0 wx ∧ Below base w wx))
      case atStart => exact ⟨0, rfl, by omega, rfl, Lib.hid ⟨HC0.out, HBw.out⟩⟩
      case round =>
        obtain ⟨m, rfl, hm, rfl, HJ⟩ := hrel
        rename World => wb
        obtain ⟨x1, -, -, -, hta, -⟩ := HR.out wb HJ.out.1
        by_cases hlm : m < na
        · have hdm : decide (m < na) = true := by simpa using hlm
          obtain ⟨A', n', c', hx, -, ht⟩ := hta
          injection hx with e1 e2 e3
          subst e1 e2 e3
          obtain ⟨b, cs, rfl, hbb, hbr, hbn⟩ := ht (by omega)
          have y0 : wb.cell? ⟨b, m, none⟩ = some cs[m] := by rw [cell_of_row _ _ _ _ _ _ hbr, Array.getElem?_eq_getElem (by omega)]
          have yf := frozen_of_row wb b m _ _ hbr
          obtain ⟨cv, hcv⟩ : ∃ cv, cs[m] = cv := ⟨_, rfl⟩
          rw [hcv] at y0
          have HN : Hid (SpI base l.length g cur0 (wb.setCell ⟨b, m, none⟩ (.string ⟨#[63]⟩)) ∧ Below base w (wb.setCell ⟨b, m, none⟩ (.string ⟨#[63]⟩))) := Lib.hid ⟨HJ.out.1.str hbr _, Below.setCell HJ.out.2 (p := ⟨b, m, none⟩) hbb _⟩
          clear hcv hbr hbb hbn HJ
          go_wp2_with fail
          go_roundg (na - (m + 1) + 1)
          case measure => omega
          case rel => exact ⟨m + 1, rfl, by omega, by simp, HN⟩
        · have hdm : decide (m < na) = false := by simpa using hlm
          clear hta hlm
          go_wp2_with fail
          clear x1
          go_loopg [4] (nb + 1) (fun gk i wx => ∃ m : Nat, gk = nb - m + 1 ∧ m ≤ nb ∧ i = .int .i64 (m : Int) ∧ Hid (SpI base l.length g cur0 wx ∧ Below base w wx))
          case atStart => exact ⟨0, rfl, by omega, rfl, HJ⟩
          case round =>
            obtain ⟨k, rfl, hk, rfl, HK⟩ := hrel
            rename World => wc
            obtain ⟨-, x2, ⟨cr, x3⟩, xf, -, htb⟩ := HR.out wc HK.out.1
            by_cases hlk : k < nb
            · have hdk : decide (k < nb) = true := by simpa using hlk
              obtain ⟨A', n', c', hx, -, ht⟩ := htb
              injection hx with e1 e2 e3
              subst e1 e2 e3
              obtain ⟨b, cs, rfl, hbb, hbr, hbn⟩ := ht (by omega)
              have y0 : wc.cell? ⟨b, k, none⟩ = some cs[k] := by rw [cell_of_row _ _ _ _ _ _ hbr, Array.getElem?_eq_getElem (by omega)]
              have yf := frozen_of_row wc b k _ _ hbr
              obtain ⟨cv, hcv⟩ : ∃ cv, cs[k] = cv := ⟨_, rfl⟩
              rw [hcv] at y0
              have HN : Hid (SpI base l.length g cur0 (wc.setCell ⟨b, k, none⟩ (.string ⟨#[63]⟩)) ∧ Below base w (wc.setCell ⟨b, k, none⟩ (.string ⟨#[63]⟩))) := Lib.hid ⟨HK.out.1.str hbr _, Below.setCell HK.out.2 (p := ⟨b, k, none⟩) hbb _⟩
              clear hcv hbr hbb hbn HK x3 xf
              go_wp2_with fail
              go_roundg (nb - (k + 1) + 1)
              case measure => omega
              case rel => exact ⟨k + 1, rfl, by omega, by simp, HN⟩
            · have hdk : decide (k < nb) = false := by simpa using hlk
              have HN1 : Hid (SpI base l.length g cur0 (wc.setCell ⟨g, q * 4 + 3, none⟩ (.slice none 0 0))) := Lib.hid (HK.out.1.res q _)
              have HN2 : Hid (Below base w (wc.setCell ⟨g, q * 4 + 3, none⟩ (.slice none 0 0))) := Lib.hid (Below.setCell HK.out.2 (p := ⟨g, q * 4 + 3, none⟩) HGb.out _)
              clear htb hlk
              go_wp2_with fail
              go_roundg (l.length - (q + 1) + 1)
              case measure => omega
              case rel => exact ⟨q + 1, rfl, by omega, by simp, Lib.hid (fun _ => ⟨g, cur0, rfl, HGb.out, HN1.out, HCx.out⟩), HN2⟩
    · have hdq : decide (q < l.length) = false := by simpa using hlt
      clear hlt
      go_wp2_with fail
      go_end0
      exact ⟨rfl, HBw.out⟩
end Go.Proofs.YtlhhiiemojhjdaaGreatDoor
