/- Texts of this proof, laid into one: PoJ. -/
import Derived.Test.YtlhhiiemojhjdaaGreatDoorMt18
set_option linter.unusedVariables false
set_option linter.unusedSimpArgs false
namespace Go.Proofs.YtlhhiiemojhjdaaGreatDoor
open Go Go.RowKit
def StmtP (o : Option StmtD) (w : World) (e : Ending) (w' : World) : Prop := Q w w' ∧ ∃ al A1 A2 A3 n1 n2 n3 c1 c2 c3 ev, e = .returned (.tuple #[.agg #[.bool al, .slice A1 n1 c1, .slice A2 n2 c2, .slice A3 n3 c3], ev]) ∧
  match o with
  | some s => ev = .nilIface ∧ al = s.allow ∧ n1 = s.who.length ∧ n2 = s.acts.length ∧ n3 = s.ress.length ∧ OwnS 9 w w' (.slice A1 n1 c1) (s.who.map strV) ∧ OwnS 9 w w' (.slice A2 n2 c2) (s.acts.map strV) ∧ OwnS 9 w w' (.slice A3 n3 c3) (s.ress.map strV)
  | none => ∃ tx vx, ev = .iface tx vx ∧ WrongE w' none ev
theorem results_stmt {fn : Func} {p q : Tmp} (h : fn.results = #[.cell p 41, .tmp q]) {tmps : Array Value} {w : World} {g : Nat} {al : Bool} {v1 v2 v3 : Value} (hp : tmps[p]?.getD undef = .pointer (some ⟨g, 0, none⟩)) (hb : w.heap[g]? = some (.cells #[.bool al, v1, v2, v3] 41 (0, 0))) :
    (results fn tmps).run Tryz.prog w = .ok (.tuple #[.agg #[.bool al, v1, v2, v3], tmps.getD q undef]) w := by
  rw [results_cell_tmp h]
  have h1 := run_loadVar_row w g 41 41 _ _ _ hb Tryz.underlying41 rfl (info_stmt v1 v2 v3 al)
  simp [hp, asAddr, Result.andThen, h1]
theorem TextsP.form {o : Option (List Txt)} {w : World} {e : Ending} {w' : World} (h : TextsP o w e w') : Q w w' ∧ ∃ A n c, e = .returned (.tuple #[.slice A n c, erV o.isNone]) ∧ ∀ l, o = some l → n = l.length ∧ OwnS 9 w w' (.slice A n c) (l.map strV) := by
  obtain ⟨h1, h2⟩ := h
  cases o with
  | none => exact ⟨h1, none, 0, 0, h2, fun l hl => by cases hl⟩
  | some l =>
    obtain ⟨A, c, h3, h4⟩ := h2
    exact ⟨h1, A, l.length, c, h3, fun l' hl => by cases hl; exact ⟨rfl, h4⟩⟩
def stmtO (R1 R2 : Bool) (al : Bool) (a b c : Option (List Txt)) : Option StmtD :=
  if R1 && R2 then match a, b, c with
    | some a, some b, some c => some ⟨al, a, b, c⟩
    | _, _, _ => none
  else none
theorem stmt_eq (k : Int) (t : Txt) (ns : List Txt) (ks : List JsonD) (h : onlyJ (.mk k t ns ks) [nSid, nEffect, nPrincipal, nAction, nResource] = true) :
    stmtJ (.mk k t ns ks) = stmtO (isTextJ ((ns.zip ks).lookup nSid) false []) (isTextJ ((ns.zip ks).lookup nEffect) true [nAllow, nDeny]) ((orJ ((ns.zip ks).lookup nEffect)).text == nAllow)
      (prJ (orJ ((ns.zip ks).lookup nPrincipal))) (textsJ (orJ ((ns.zip ks).lookup nAction))) (textsJ (orJ ((ns.zip ks).lookup nResource))) := by
  unfold stmtJ stmtO
  rw [h, pr_who, texts_or, texts_or]
  show (if (true && isTextJ ((ns.zip ks).lookup nSid) false [] && isTextJ ((ns.zip ks).lookup nEffect) true [nAllow, nDeny]) = true then _ else _) = _
  rw [Bool.true_and]
  by_cases hR : (isTextJ ((ns.zip ks).lookup nSid) false [] && isTextJ ((ns.zip ks).lookup nEffect) true [nAllow, nDeny]) = true
  · rw [if_pos hR, if_pos hR]
    have hal : decide (((getJ (.mk k t ns ks) nEffect).map (·.text)) = some nAllow) = ((orJ ((ns.zip ks).lookup nEffect)).text == nAllow) := by
      show decide ((((ns.zip ks).lookup nEffect).map (·.text)) = some nAllow) = _
      cases hl : (ns.zip ks).lookup nEffect with
      | none => rw [hl] at hR; simp [isTextJ] at hR
      | some j =>
        show decide (some j.text = some nAllow) = (j.text == nAllow)
        by_cases hj : j.text = nAllow
        · rw [hj]; simp
        · have : (j.text == nAllow) = false := by simpa using hj
          rw [this]; simpa using hj
    rw [hal]
    rfl
  · rw [if_neg hR, if_neg hR]
theorem stmt_no (k : Int) (t : Txt) (ns : List Txt) (ks : List JsonD) (h : onlyJ (.mk k t ns ks) [nSid, nEffect, nPrincipal, nAction, nResource] = false) : stmtJ (.mk k t ns ks) = none := by
  unfold stmtJ
  rw [h]; rfl
theorem stmt_ref {w w2 : World} {N1 : Nat} (hq : Q w w2) (hN : w.heap.size ≤ N1) : StmtP none w (.returned (.tuple #[.agg #[.bool false, .slice none 0 0, .slice none 0 0, .slice none 0 0], .iface 34 (.int .i64 58)])) (w2.setRow N1 #[.bool false, .slice none 0 0, .slice none 0 0, .slice none 0 0]) :=
  ⟨hq.setRow hN _, false, none, none, none, 0, 0, 0, 0, 0, 0, _, rfl, _, _, rfl, .inl rfl⟩
theorem nilNs (w : World) : NsV w (.slice none ([] : List Txt).length 0) [] := ⟨none, 0, rfl, Nat.le_refl _, by omega, fun h => absurd h (by decide)⟩
theorem OwnS.set8 {W6 X : World} {v : Value} {us : List Value} {M i : Nat} {u : Value} (h : OwnS 9 W6 X v us) (hM : M < W6.heap.size) : OwnS 9 W6 (X.setCell ⟨M, i, none⟩ u) v us :=
  ownsRow_frame h (fun k hk hs => by
    have := ownsRow_base h hk
    unfold World.setCell
    simp only [Array.getElem?_modify]
    rw [if_neg (by omega)])
theorem field_text (k : Int) (t : Txt) (A1 A2 : Option Addr) (n1 c1 n2 c2 : Nat) (w : World) : (Instr.field 46 (.agg #[.int .i64 k, .string ⟨t.toArray⟩, .slice A1 n1 c1, .slice A2 n2 c2]) 1).run Tryz.prog w = .ok (.string ⟨t.toArray⟩) w := by kernel_rfl
theorem none_of {o : Option (List Txt)} {r : Bool} (h : o.isNone = r) : (r = true ∧ o = none) ∨ (r = false ∧ ∃ l, o = some l) := by
  cases o with
  | none => left; exact ⟨h.symm, rfl⟩
  | some l => right; exact ⟨h.symm, l, rfl⟩
theorem OwnS.row9 {W6 X : World} {v : Value} {us : List Value} {N : Nat} {cs : Array Value} (h : OwnS 9 W6 X v us) (hM : N < W6.heap.size) : OwnS 9 W6 (X.setRow N cs) v us :=
  ownsRow_frame h (fun k hk hs => by
    have := ownsRow_base h hk
    simp only [World.setRow, Array.getElem?_modify]
    rw [if_neg (by omega)])
theorem JoinE.row {w : World} {b N1 : Nat} {cs : Array Value} (h : JoinE w b) (hr : w.heap[N1]? = some (.cells #[.bool false, .slice none 0 0, .slice none 0 0, .slice none 0 0] 41 (0, 0))) : JoinE (w.setRow N1 cs) b := by
  obtain ⟨g, n, c, x0, x1, x2, x3, x4, x5⟩ := h
  have hb : b ≠ N1 := fun e => by
    subst e
    rw [hr] at x4; injection x4 with x4; injection x4 with _ x4 _; cases x4
  have hg : g ≠ N1 := fun e => by
    subst e
    have := x5 0 x0
    rw [cell_of_row _ _ _ _ _ _ hr] at this
    cases this
  have hk : ∀ k, k ≠ N1 → (w.setRow N1 cs).heap[k]? = w.heap[k]? := fun k hk => by
    simp only [World.setRow, Array.getElem?_modify]
    rw [if_neg (fun e => hk e.symm)]
  exact ⟨g, n, c, x0, x1, x2, x3, by rw [hk b hb]; exact x4, fun i hi => by rw [World.cell?_of_block (hk g hg)]; exact x5 i hi⟩
theorem stmt_end {w W6 W9 w10 : World} {O : Option StmtD} {al : Bool} {O1 O2 O3 : Option (List Txt)} {r7 r8 r9 : Bool} {A7 A8 A9 : Option Addr} {n7 n8 n9 c7 c8 c9 N1 : Nat} {ev : Value} (hE : O = stmtO true true al O1 O2 O3) (h7 : O1.isNone = r7) (h8 : O2.isNone = r8) (h9 : O3.isNone = r9)
    (o7 : ∀ l, O1 = some l → n7 = l.length ∧ OwnS 9 W6 W9 (.slice A7 n7 c7) (l.map strV)) (o8 : ∀ l, O2 = some l → n8 = l.length ∧ OwnS 9 W6 W9 (.slice A8 n8 c8) (l.map strV)) (o9 : ∀ l, O3 = some l → n9 = l.length ∧ OwnS 9 W6 W9 (.slice A9 n9 c9) (l.map strV))
    (hq : Q W9 w10) (hw : Q w W9) (hN : N1 < W6.heap.size) (hN1 : w.heap.size ≤ N1) (hs : w.heap.size ≤ W6.heap.size) (hr : W9.heap[N1]? = some (.cells #[.bool false, .slice none 0 0, .slice none 0 0, .slice none 0 0] 41 (0, 0))) (hJ : JoinP [r7, r8, r9] W9 (.returned ev) w10) :
    StmtP O w (.returned (.tuple #[.agg #[.bool al, .slice A7 n7 c7, .slice A8 n8 c8, .slice A9 n9 c9], ev])) (w10.setRow N1 #[.bool al, .slice A7 n7 c7, .slice A8 n8 c8, .slice A9 n9 c9]) := by
  have hq2 := (hw.trans hq).setRow hN1 #[.bool al, .slice A7 n7 c7, .slice A8 n8 c8, .slice A9 n9 c9]
  refine ⟨hq2, al, A7, A8, A9, n7, n8, n9, c7, c8, c9, ev, rfl, ?_⟩
  have hno : [r7, r8, r9].any id = true → O = none := by
    intro h
    rw [hE]
    rcases none_of h7 with ⟨rfl, rfl⟩ | ⟨rfl, a, rfl⟩
    · rfl
    · rcases none_of h8 with ⟨rfl, rfl⟩ | ⟨rfl, b, rfl⟩
      · rfl
      · rcases none_of h9 with ⟨rfl, rfl⟩ | ⟨rfl, c, rfl⟩
        · rfl
        · simp at h
  obtain ⟨_, hJ⟩ := hJ
  rcases hJ with ⟨h0, he⟩ | ⟨h0, bj, he, hj⟩
  · injection he with he
    subst he
    rcases none_of h7 with ⟨rfl, rfl⟩ | ⟨rfl, a, rfl⟩
    · simp at h0
    · rcases none_of h8 with ⟨rfl, rfl⟩ | ⟨rfl, b, rfl⟩
      · simp at h0
      · rcases none_of h9 with ⟨rfl, rfl⟩ | ⟨rfl, c, rfl⟩
        · simp at h0
        · subst hE
          obtain ⟨e1, p1⟩ := o7 a rfl
          obtain ⟨e2, p2⟩ := o8 b rfl
          obtain ⟨e3, p3⟩ := o9 c rfl
          exact ⟨rfl, rfl, e1, e2, e3, ownsRow_low ((p1.q hq).row9 hN) hs, ownsRow_low ((p2.q hq).row9 hN) hs, ownsRow_low ((p3.q hq).row9 hN) hs⟩
  · injection he with he
    subst he
    rw [hno h0]
    exact ⟨_, _, rfl, .inr ⟨bj, rfl, hj.row (hq.block hr)⟩⟩
def fiveN : List Txt := [nSid, nEffect, nPrincipal, nAction, nResource]
set_option maxRecDepth 100000 in
set_option maxHeartbeats 8000000 in
theorem statement_any (k : Int) (t : Txt) (ns : List Txt) (ks : List JsonD) (A1 A2 : Option Addr) (c1 c2 : Nat) (w : World) (hj : JV w (.mk k t ns ks) (.slice A1 ns.length c1) (.slice A2 ks.length c2)) (hf : FineJ (.mk k t ns ks)) :
    Calls Tryz.prog 34 #[.agg #[.int .i64 k, .string ⟨t.toArray⟩, .slice A1 ns.length c1, .slice A2 ks.length c2]] w (StmtP (stmtJ (.mk k t ns ks)) w) := by
  have HJ := Lib.hid hj
  have HF := Lib.hid hf
  obtain ⟨O, hO⟩ : ∃ O, stmtJ (.mk k t ns ks) = O := ⟨_, rfl⟩
  have HO := Lib.hid hO
  rw [hO]
  clear hO hj hf
  go_enter Tryz.func34, Tryz.ntmps34
  go_upto_region 1 with (fail)
  obtain ⟨W0, hW0⟩ : ∃ W0, (w.alloc (.cells #[.int .i64 k, .string ⟨t.toArray⟩, .slice A1 ns.length c1, .slice A2 ks.length c2] 46)).alloc (.cells #[.bool false, .slice none 0 0, .slice none 0 0, .slice none 0 0] 41) = W0 := ⟨_, rfl⟩
  have hq0 : Q w W0 := by rw [← hW0]; exact ((Q.refl w).alloc _).alloc _
  have hr0 : W0.heap[w.heap.size]? = some (.cells #[.int .i64 k, .string ⟨t.toArray⟩, .slice A1 ns.length c1, .slice A2 ks.length c2] 46 (0, 0)) := by rw [← hW0]; exact ((Q.refl _).alloc _).block (heap_alloc_new w _)
  have hr1 : W0.heap[w.heap.size + 1]? = some (.cells #[.bool false, .slice none 0 0, .slice none 0 0, .slice none 0 0] 41 (0, 0)) := by
    rw [← hW0]
    have := heap_alloc_new (w.alloc (.cells #[.int .i64 k, .string ⟨t.toArray⟩, .slice A1 ns.length c1, .slice A2 ks.length c2] 46)) (.cells #[.bool false, .slice none 0 0, .slice none 0 0, .slice none 0 0] 41)
    rw [show (w.alloc (.cells #[.int .i64 k, .string ⟨t.toArray⟩, .slice A1 ns.length c1, .slice A2 ks.length c2] 46)).heap.size = w.heap.size + 1 by simp] at this
    exact this
  rw [hW0]
  clear hW0
  obtain ⟨N, hN⟩ : ∃ N, w.heap.size = N := ⟨_, rfl⟩
  obtain ⟨N1, hN1⟩ : ∃ N1, N + 1 = N1 := ⟨_, rfl⟩
  rw [hN] at hr0 hr1 ⊢
  rw [hN1] at hr1 ⊢
  have HNl : Hid (w.heap.size ≤ N1) := Lib.hid (by omega)
  have HR1 := Lib.hid hr1
  have HQ0 := Lib.hid hq0
  clear hN hN1 hr1
  have y0 : W0.cell? ⟨N, 0, none⟩ = some (.int .i64 k) := by rw [cell_of_row _ _ _ _ _ _ hr0]; rfl
  have y1 : W0.cell? ⟨N, 1, none⟩ = some (.string ⟨t.toArray⟩) := by rw [cell_of_row _ _ _ _ _ _ hr0]; rfl
  have y2 : W0.cell? ⟨N, 2, none⟩ = some (.slice A1 ns.length c1) := by rw [cell_of_row _ _ _ _ _ _ hr0]; rfl
  have y3 : W0.cell? ⟨N, 3, none⟩ = some (.slice A2 ks.length c2) := by rw [cell_of_row _ _ _ _ _ _ hr0]; rfl
  obtain ⟨W1, hW1⟩ : ∃ W1, W0.alloc (.cells #[.string ⟨#[83, 105, 100]⟩, .string ⟨#[69, 102, 102, 101, 99, 116]⟩, .string ⟨#[80, 114, 105, 110, 99, 105, 112, 97, 108]⟩, .string ⟨#[65, 99, 116, 105, 111, 110]⟩, .string ⟨#[82, 101, 115, 111, 117, 114, 99, 101]⟩] 9) = W1 := ⟨_, rfl⟩
  obtain ⟨M1, hM1⟩ : ∃ M1, W0.heap.size = M1 := ⟨_, rfl⟩
  have hns : NsV W1 (.slice (some ⟨M1, 0, none⟩) 5 5) fiveN := by rw [← hW1, ← hM1]; exact ns_new W0 fiveN (by decide)
  have hq1 : Q W0 W1 := by rw [← hW1]; exact (Q.refl W0).alloc _
  have HQ1 := Lib.hid (hq0.trans hq1)
  have HR11 := Lib.hid (hq1.block HR1.out)
  have HOb : Hid (Calls Tryz.prog 31 #[.agg #[.int .i64 k, .string ⟨t.toArray⟩, .slice A1 ns.length c1, .slice A2 ks.length c2], .slice (some ⟨M1, 0, none⟩) 5 5] W1 (ObjP (.mk k t ns ks) fiveN W1)) := Lib.hid (object_any k t ns ks A1 A2 c1 c2 fiveN (some ⟨M1, 0, none⟩) 5 W1 (HJ.out.q HQ1.out) hns HF.out.d.seven HF.out.d.names HF.out.d.short)
  clear hq0 hr0 hns hq1 HR1
  go_wp2_with fail
  refine HOb.out.mono ?_
  rintro e w2 ⟨hq2, hc⟩
  have HQ2 := Lib.hid (HQ1.out.trans hq2)
  have HR2 := Lib.hid (hq2.block HR11.out)
  clear HOb HR11 y0 y1 y2 y3 hq2 hW1 hM1
  have hzi := info_stmt (.slice none 0 0) (.slice none 0 0) (.slice none 0 0) false
  rcases hc with ⟨ho, b, rfl, hm⟩ | ⟨ho, rfl⟩
  · have HM : Hid (MapB w2 b (ns.zip ks)) := Lib.hid hm
    have HE : Hid (O = stmtO (isTextJ ((ns.zip ks).lookup nSid) false []) (isTextJ ((ns.zip ks).lookup nEffect) true [nAllow, nDeny]) ((orJ ((ns.zip ks).lookup nEffect)).text == nAllow)
      (prJ (orJ ((ns.zip ks).lookup nPrincipal))) (textsJ (orJ ((ns.zip ks).lookup nAction))) (textsJ (orJ ((ns.zip ks).lookup nResource)))) := Lib.hid (by rw [← HO.out]; exact stmt_eq k t ns ks ho)
    have HLk : Hid (∀ x, FineJ (orJ ((ns.zip ks).lookup x))) := Lib.hid (fun x => HF.out.look x)
    obtain ⟨Z, hZ⟩ : ∃ Z, ns.zip ks = Z := ⟨_, rfl⟩
    rw [hZ] at HM HE HLk
    clear hm ho hZ HF HJ HO
    obtain ⟨R1, hR1⟩ : ∃ R, isTextJ (Z.lookup nSid) false [] = R := ⟨_, rfl⟩
    obtain ⟨R2, hR2⟩ : ∃ R, isTextJ (Z.lookup nEffect) true [nAllow, nDeny] = R := ⟨_, rfl⟩
    have HI1 : Hid (Calls Tryz.prog 32 #[.map (some b), .string ⟨#[83, 105, 100]⟩, .bool false, .slice none 0 0] w2 fun e w' => e = .returned (.bool R1) ∧ Q w2 w') := Lib.hid (by
      have := isText_any b Z nSid false [] none 0 w2 HM.out (bndS _ (by decide)) (nilNs w2)
      rw [hR1] at this; exact this)
    rw [hR1, hR2] at HE
    have HR2h := Lib.hid hR2
    clear hR1 hR2
    go_wp2_with fail
    refine HI1.out.mono ?_
    rintro e w3 ⟨rfl, hq3⟩
    have HQ3 := Lib.hid (HQ2.out.trans hq3)
    have HR3 := Lib.hid (hq3.block HR2.out)
    have HM3 := Lib.hid (HM.out.q hq3)
    clear hq3 HI1 HM HR2
    cases R1 with
    | false =>
      have HX : Hid (O = none) := Lib.hid (by rw [HE.out]; rfl)
      go_wp2_with fail
      refine (errNone_any _).mono ?_
      rintro e w9 ⟨rfl, hq9⟩
      have HR9 := Lib.hid (hq9.block HR3.out)
      have HP : Hid (StmtP O w (.returned (.tuple #[.agg #[.bool false, .slice none 0 0, .slice none 0 0, .slice none 0 0], .iface 34 (.int .i64 58)])) (w9.setRow N1 #[.bool false, .slice none 0 0, .slice none 0 0, .slice none 0 0])) := Lib.hid (by rw [HX.out]; exact stmt_ref (HQ3.out.trans hq9) HNl.out)
      have HR10 := Lib.hid (setRow_at HR9.out #[.bool false, .slice none 0 0, .slice none 0 0, .slice none 0 0])
      clear hq9
      go_wp2_with (refine wpList_store_row rfl 41 (.tmp 2) (.tmp 29) rfl N1 _ rfl rfl 41 _ HR9.out hzi rfl (by simp [Value.oneCell']) ?_; simp only [Act.put])
      exact bodyPost_ret (results_stmt (p := 2) (q := 3) rfl (by rfl) HR10.out) rfl HP.out
    | true =>
      obtain ⟨W4, hW4⟩ : ∃ W4, w3.alloc (.cells #[.string ⟨#[65, 108, 108, 111, 119]⟩, .string ⟨#[68, 101, 110, 121]⟩] 9) = W4 := ⟨_, rfl⟩
      obtain ⟨M4, hM4⟩ : ∃ M4, w3.heap.size = M4 := ⟨_, rfl⟩
      have hns : NsV W4 (.slice (some ⟨M4, 0, none⟩) 2 2) [nAllow, nDeny] := by rw [← hW4, ← hM4]; exact ns_new w3 [nAllow, nDeny] (by decide)
      have hq4 : Q w3 W4 := by rw [← hW4]; exact (Q.refl w3).alloc _
      have HI2 : Hid (Calls Tryz.prog 32 #[.map (some b), .string ⟨#[69, 102, 102, 101, 99, 116]⟩, .bool true, .slice (some ⟨M4, 0, none⟩) 2 2] W4 fun e w' => e = .returned (.bool R2) ∧ Q W4 w') := Lib.hid (by
        have := isText_any b Z nEffect true [nAllow, nDeny] (some ⟨M4, 0, none⟩) 2 W4 (HM3.out.q hq4) (bndS _ (by decide)) hns
        rw [HR2h.out] at this; exact this)
      have HQ4 := Lib.hid (HQ3.out.trans hq4)
      have HR4 := Lib.hid (hq4.block HR3.out)
      have HM4 := Lib.hid (HM3.out.q hq4)
      clear hns hq4 HM3 HR3
      go_wp2_with fail
      refine HI2.out.mono ?_
      rintro e w5 ⟨rfl, hq5⟩
      have HQ5 := Lib.hid (HQ4.out.trans hq5)
      have HR5 := Lib.hid (hq5.block HR4.out)
      have HM5 := Lib.hid (HM4.out.q hq5)
      clear hq5 HI2 HM4 HR4 hW4 hM4 HR2h
      cases R2 with
      | false =>
        have HX : Hid (O = none) := Lib.hid (by rw [HE.out]; rfl)
        go_wp2_with fail
        refine (errNone_any _).mono ?_
        rintro e w9 ⟨rfl, hq9⟩
        have HR9 := Lib.hid (hq9.block HR5.out)
        have HP : Hid (StmtP O w (.returned (.tuple #[.agg #[.bool false, .slice none 0 0, .slice none 0 0, .slice none 0 0], .iface 34 (.int .i64 58)])) (w9.setRow N1 #[.bool false, .slice none 0 0, .slice none 0 0, .slice none 0 0])) := Lib.hid (by rw [HX.out]; exact stmt_ref (HQ5.out.trans hq9) HNl.out)
        have HR10 := Lib.hid (setRow_at HR9.out #[.bool false, .slice none 0 0, .slice none 0 0, .slice none 0 0])
        clear hq9
        go_wp2_with (refine wpList_store_row rfl 41 (.tmp 2) (.tmp 29) rfl N1 _ rfl rfl 41 _ HR9.out hzi rfl (by simp [Value.oneCell']) ?_; simp only [Act.put])
        exact bodyPost_ret (results_stmt (p := 2) (q := 3) rfl (by rfl) HR10.out) rfl HP.out
      | true =>
        obtain ⟨O1, hO1⟩ : ∃ O1, prJ (orJ (Z.lookup nPrincipal)) = O1 := ⟨_, rfl⟩
        obtain ⟨O2, hO2⟩ : ∃ O2, textsJ (orJ (Z.lookup nAction)) = O2 := ⟨_, rfl⟩
        obtain ⟨O3, hO3⟩ : ∃ O3, textsJ (orJ (Z.lookup nResource)) = O3 := ⟨_, rfl⟩
        rw [hO1, hO2, hO3] at HE
        have HO1 := Lib.hid hO1
        have HO2 := Lib.hid hO2
        have HO3 := Lib.hid hO3
        obtain ⟨B1, n1, d1, B2, n2, d2, hjv, -, r2⟩ := HM5.out.look nEffect (bndS _ (by decide))
        obtain ⟨kk, hkk⟩ : ∃ kk, (orJ (Z.lookup nEffect)).kind = kk := ⟨_, rfl⟩
        obtain ⟨tt, htt⟩ : ∃ tt, (orJ (Z.lookup nEffect)).text = tt := ⟨_, rfl⟩
        have r2 : (Instr.lookup 71 (.map (some b)) (.string ⟨#[69, 102, 102, 101, 99, 116]⟩) false).run Tryz.prog w5 = .ok (.agg #[.int .i64 (orJ (Z.lookup nEffect)).kind, .string ⟨(orJ (Z.lookup nEffect)).text.toArray⟩, .slice B1 n1 d1, .slice B2 n2 d2]) w5 := r2
        rw [hkk, htt] at r2
        rw [htt] at HE
        obtain ⟨al, hal⟩ : ∃ al, (tt == [65, 108, 108, 111, 119]) = al := ⟨_, rfl⟩
        have HE2 : Hid (O = stmtO true true al O1 O2 O3) := Lib.hid (by rw [HE.out, ← hal]; rfl)
        have hfd := field_text kk tt B1 B2 n1 d1 n2 d2
        clear hO1 hO2 hO3 hkk htt hjv HE
        go_upto_region 7 with (fail)
        have hrw6 := heap_alloc_new w5 (.cells #[.bool al, .slice none 0 0, .slice none 0 0, .slice none 0 0] 41)
        obtain ⟨W6, hW6⟩ : ∃ W6, w5.alloc (.cells #[.bool al, .slice none 0 0, .slice none 0 0, .slice none 0 0] 41) = W6 := ⟨_, rfl⟩
        have hq6 : Q w5 W6 := by rw [← hW6]; exact (Q.refl w5).alloc _
        have hne : N1 ≠ w5.heap.size := Nat.ne_of_lt (lt_of_heap HR5.out)
        have HSz6 : Hid (W6.heap.size ≤ W6.heap.size) := Lib.hid (Nat.le_refl _)
        obtain ⟨M6, hM6⟩ : ∃ M6, w5.heap.size = M6 := ⟨_, rfl⟩
        rw [hW6, hM6] at hrw6
        rw [hM6] at hne
        have HM6 : Hid (w5.heap.size ≤ M6 ∧ M6 < W6.heap.size ∧ N1 ≠ M6) := Lib.hid ⟨Nat.le_of_eq hM6, lt_of_heap hrw6, hne⟩
        have HQ6 := Lib.hid hq6
        have HRw6 := Lib.hid hrw6
        rw [hW6, hM6]
        clear hW6 hM6 hrw6 hq6 hne r2 hal hfd
        obtain ⟨B1, n1, d1, B2, n2, d2, hjv, -, r2⟩ := (HM5.out.q HQ6.out).look nPrincipal (bndS _ (by decide))
        have hfi := HLk.out nPrincipal
        have ho := HO1.out
        obtain ⟨j2, hj2⟩ : ∃ j2, orJ (Z.lookup nPrincipal) = j2 := ⟨_, rfl⟩
        replace hjv : JV W6 (orJ (Z.lookup nPrincipal)) (.slice B1 n1 d1) (.slice B2 n2 d2) := hjv
        replace r2 : (Instr.lookup 71 (.map (some b)) (.string ⟨#[80, 114, 105, 110, 99, 105, 112, 97, 108]⟩) false).run Tryz.prog W6 = .ok (.agg #[.int .i64 (orJ (Z.lookup nPrincipal)).kind, .string ⟨(orJ (Z.lookup nPrincipal)).text.toArray⟩, .slice B1 n1 d1, .slice B2 n2 d2]) W6 := r2
        rw [hj2] at hjv r2 hfi ho
        obtain ⟨k2, t2, ns2, ks2, A12, c12, A22, c22, rfl, e1, e2⟩ := hjv.full
        cases e1
        cases e2
        simp only [JsonD.kind, JsonD.text] at r2
        have HTx : Hid (Calls Tryz.prog 48 #[.agg #[.int .i64 k2, .string ⟨t2.toArray⟩, .slice B1 ns2.length d1, .slice B2 ks2.length d2]] W6 (TextsP O1 W6)) := Lib.hid (by
          have := principals_any k2 t2 ns2 ks2 B1 B2 d1 d2 W6 hjv hfi
          rw [ho] at this; exact this)
        clear hjv hfi hj2 ho
        go_wp2_with fail
        refine HTx.out.mono ?_
        rintro e w7 hc
        obtain ⟨hq7, A7, n7, c7, rfl, hown7⟩ := hc.form
        have HQc7 := Lib.hid hq7
        have hrw7 := hq7.block HRw6.out
        have y7 : w7.cell? ⟨M6, 1, none⟩ = some (.slice none 0 0) := by rw [cell_of_row _ _ _ _ _ _ hrw7]; rfl
        have f7 := frozen_of_row w7 M6 1 _ _ hrw7
        have HRx7 : Hid ((w7.setCell ⟨M6, 1, none⟩ (.slice A7 n7 c7)).heap[M6]? = some (.cells #[.bool al, .slice A7 n7 c7, .slice none 0 0, .slice none 0 0] 41 (0, 0))) := Lib.hid (by rw [heap_setCell_any _ M6 1 _ _ _ _ hrw7]; rfl)
        have HQx7 : Hid (Q w5 (w7.setCell ⟨M6, 1, none⟩ (.slice A7 n7 c7))) := Lib.hid ((HQ6.out.trans hq7).setNew (by show w5.heap.size ≤ M6; exact HM6.out.1) _)
        have HOwn7 : Hid (∀ l, O1 = some l → n7 = l.length ∧ OwnS 9 W6 (w7.setCell ⟨M6, 1, none⟩ (.slice A7 n7 c7)) (.slice A7 n7 c7) (l.map strV)) := Lib.hid (fun l hl => ⟨(hown7 l hl).1, (OwnS.set8 (ownsRow_low (hown7 l hl).2 HSz6.out) HM6.out.2.1)⟩)
        have HSz7 : Hid (W6.heap.size ≤ (w7.setCell ⟨M6, 1, none⟩ (.slice A7 n7 c7)).heap.size) := Lib.hid (by have := HSz6.out; have := hq7.size; simp [World.setCell]; omega)
        have HTr7 : Hid (∀ v us, OwnS 9 W6 W6 v us → OwnS 9 W6 (w7.setCell ⟨M6, 1, none⟩ (.slice A7 n7 c7)) v us) := Lib.hid (fun v us h => (h.q HQc7.out).set8 HM6.out.2.1)
        obtain ⟨r7, hr7⟩ : ∃ r, O1.isNone = r := ⟨_, rfl⟩
        rw [hr7]
        have HIs7 := Lib.hid hr7
        clear hc hq7 hown7 hrw7 hr7 HTx r2
        go_upto_region 9 with (fail)
        obtain ⟨W7, hW7⟩ : ∃ W, w7.setCell ⟨M6, 1, none⟩ (.slice A7 n7 c7) = W := ⟨_, rfl⟩
        rw [hW7] at HRx7 HQx7 HOwn7 HSz7 HTr7 ⊢
        have HRw7 := HRx7
        have HQ7 := HQx7
        clear y7 f7 HRx7 HQx7 hW7
        obtain ⟨B1, n1, d1, B2, n2, d2, hjv, -, r2⟩ := (HM5.out.q HQ7.out).look nAction (bndS _ (by decide))
        have hfi := HLk.out nAction
        have ho := HO2.out
        obtain ⟨j2, hj2⟩ : ∃ j2, orJ (Z.lookup nAction) = j2 := ⟨_, rfl⟩
        replace hjv : JV W7 (orJ (Z.lookup nAction)) (.slice B1 n1 d1) (.slice B2 n2 d2) := hjv
        replace r2 : (Instr.lookup 71 (.map (some b)) (.string ⟨#[65, 99, 116, 105, 111, 110]⟩) false).run Tryz.prog W7 = .ok (.agg #[.int .i64 (orJ (Z.lookup nAction)).kind, .string ⟨(orJ (Z.lookup nAction)).text.toArray⟩, .slice B1 n1 d1, .slice B2 n2 d2]) W7 := r2
        rw [hj2] at hjv r2 hfi ho
        obtain ⟨k2, t2, ns2, ks2, A12, c12, A22, c22, rfl, e1, e2⟩ := hjv.full
        cases e1
        cases e2
        simp only [JsonD.kind, JsonD.text] at r2
        have HTx : Hid (Calls Tryz.prog 49 #[.agg #[.int .i64 k2, .string ⟨t2.toArray⟩, .slice B1 ns2.length d1, .slice B2 ks2.length d2]] W7 (TextsP O2 W7)) := Lib.hid (by
          have := texts_any k2 t2 ns2 ks2 B1 B2 d1 d2 W7 hjv hfi.d.kids
          rw [ho] at this; exact this)
        clear hjv hfi hj2 ho
        go_wp2_with fail
        refine HTx.out.mono ?_
        rintro e w8 hc
        obtain ⟨hq8, A8, n8, c8, rfl, hown8⟩ := hc.form
        have HQc8 := Lib.hid hq8
        have hrw8 := hq8.block HRw7.out
        have y8 : w8.cell? ⟨M6, 2, none⟩ = some (.slice none 0 0) := by rw [cell_of_row _ _ _ _ _ _ hrw8]; rfl
        have f8 := frozen_of_row w8 M6 2 _ _ hrw8
        have HRx8 : Hid ((w8.setCell ⟨M6, 2, none⟩ (.slice A8 n8 c8)).heap[M6]? = some (.cells #[.bool al, .slice A7 n7 c7, .slice A8 n8 c8, .slice none 0 0] 41 (0, 0))) := Lib.hid (by rw [heap_setCell_any _ M6 2 _ _ _ _ hrw8]; rfl)
        have HQx8 : Hid (Q w5 (w8.setCell ⟨M6, 2, none⟩ (.slice A8 n8 c8))) := Lib.hid ((HQ7.out.trans hq8).setNew (by show w5.heap.size ≤ M6; exact HM6.out.1) _)
        have HOwn8 : Hid (∀ l, O2 = some l → n8 = l.length ∧ OwnS 9 W6 (w8.setCell ⟨M6, 2, none⟩ (.slice A8 n8 c8)) (.slice A8 n8 c8) (l.map strV)) := Lib.hid (fun l hl => ⟨(hown8 l hl).1, (OwnS.set8 (ownsRow_low (hown8 l hl).2 HSz7.out) HM6.out.2.1)⟩)
        have HSz8 : Hid (W6.heap.size ≤ (w8.setCell ⟨M6, 2, none⟩ (.slice A8 n8 c8)).heap.size) := Lib.hid (by have := HSz7.out; have := hq8.size; simp [World.setCell]; omega)
        have HTr8 : Hid (∀ v us, OwnS 9 W6 W7 v us → OwnS 9 W6 (w8.setCell ⟨M6, 2, none⟩ (.slice A8 n8 c8)) v us) := Lib.hid (fun v us h => (h.q HQc8.out).set8 HM6.out.2.1)
        obtain ⟨r8, hr8⟩ : ∃ r, O2.isNone = r := ⟨_, rfl⟩
        rw [hr8]
        have HIs8 := Lib.hid hr8
        clear hc hq8 hown8 hrw8 hr8 HTx r2
        go_upto_region 10 with (fail)
        obtain ⟨W8, hW8⟩ : ∃ W, w8.setCell ⟨M6, 2, none⟩ (.slice A8 n8 c8) = W := ⟨_, rfl⟩
        rw [hW8] at HRx8 HQx8 HOwn8 HSz8 HTr8 ⊢
        have HRw8 := HRx8
        have HQ8 := HQx8
        clear y8 f8 HRx8 HQx8 hW8
        obtain ⟨B1, n1, d1, B2, n2, d2, hjv, -, r2⟩ := (HM5.out.q HQ8.out).look nResource (bndS _ (by decide))
        have hfi := HLk.out nResource
        have ho := HO3.out
        obtain ⟨j2, hj2⟩ : ∃ j2, orJ (Z.lookup nResource) = j2 := ⟨_, rfl⟩
        replace hjv : JV W8 (orJ (Z.lookup nResource)) (.slice B1 n1 d1) (.slice B2 n2 d2) := hjv
        replace r2 : (Instr.lookup 71 (.map (some b)) (.string ⟨#[82, 101, 115, 111, 117, 114, 99, 101]⟩) false).run Tryz.prog W8 = .ok (.agg #[.int .i64 (orJ (Z.lookup nResource)).kind, .string ⟨(orJ (Z.lookup nResource)).text.toArray⟩, .slice B1 n1 d1, .slice B2 n2 d2]) W8 := r2
        rw [hj2] at hjv r2 hfi ho
        obtain ⟨k2, t2, ns2, ks2, A12, c12, A22, c22, rfl, e1, e2⟩ := hjv.full
        cases e1
        cases e2
        simp only [JsonD.kind, JsonD.text] at r2
        have HTx : Hid (Calls Tryz.prog 49 #[.agg #[.int .i64 k2, .string ⟨t2.toArray⟩, .slice B1 ns2.length d1, .slice B2 ks2.length d2]] W8 (TextsP O3 W8)) := Lib.hid (by
          have := texts_any k2 t2 ns2 ks2 B1 B2 d1 d2 W8 hjv hfi.d.kids
          rw [ho] at this; exact this)
        clear hjv hfi hj2 ho
        go_wp2_with fail
        refine HTx.out.mono ?_
        rintro e w9 hc
        obtain ⟨hq9, A9, n9, c9, rfl, hown9⟩ := hc.form
        have HQc9 := Lib.hid hq9
        have hrw9 := hq9.block HRw8.out
        have y9 : w9.cell? ⟨M6, 3, none⟩ = some (.slice none 0 0) := by rw [cell_of_row _ _ _ _ _ _ hrw9]; rfl
        have f9 := frozen_of_row w9 M6 3 _ _ hrw9
        have HRx9 : Hid ((w9.setCell ⟨M6, 3, none⟩ (.slice A9 n9 c9)).heap[M6]? = some (.cells #[.bool al, .slice A7 n7 c7, .slice A8 n8 c8, .slice A9 n9 c9] 41 (0, 0))) := Lib.hid (by rw [heap_setCell_any _ M6 3 _ _ _ _ hrw9]; rfl)
        have HQx9 : Hid (Q w5 (w9.setCell ⟨M6, 3, none⟩ (.slice A9 n9 c9))) := Lib.hid ((HQ8.out.trans hq9).setNew (by show w5.heap.size ≤ M6; exact HM6.out.1) _)
        have HOwn9 : Hid (∀ l, O3 = some l → n9 = l.length ∧ OwnS 9 W6 (w9.setCell ⟨M6, 3, none⟩ (.slice A9 n9 c9)) (.slice A9 n9 c9) (l.map strV)) := Lib.hid (fun l hl => ⟨(hown9 l hl).1, (OwnS.set8 (ownsRow_low (hown9 l hl).2 HSz8.out) HM6.out.2.1)⟩)
        have HSz9 : Hid (W6.heap.size ≤ (w9.setCell ⟨M6, 3, none⟩ (.slice A9 n9 c9)).heap.size) := Lib.hid (by have := HSz8.out; have := hq9.size; simp [World.setCell]; omega)
        have HTr9 : Hid (∀ v us, OwnS 9 W6 W8 v us → OwnS 9 W6 (w9.setCell ⟨M6, 3, none⟩ (.slice A9 n9 c9)) v us) := Lib.hid (fun v us h => (h.q HQc9.out).set8 HM6.out.2.1)
        obtain ⟨r9, hr9⟩ : ∃ r, O3.isNone = r := ⟨_, rfl⟩
        rw [hr9]
        have HIs9 := Lib.hid hr9
        clear hc hq9 hown9 hrw9 hr9 HTx r2
        go_upto_region 11 with (fail)
        obtain ⟨W9, hW9⟩ : ∃ W, w9.setCell ⟨M6, 3, none⟩ (.slice A9 n9 c9) = W := ⟨_, rfl⟩
        rw [hW9] at HRx9 HQx9 HOwn9 HSz9 HTr9 ⊢
        have HRw9 := HRx9
        have HQ9 := HQx9
        clear y9 f9 HRx9 HQx9 hW9
        have HOw1 : Hid (∀ l, O1 = some l → n7 = l.length ∧ OwnS 9 W6 W9 (.slice A7 n7 c7) (l.map strV)) := Lib.hid (fun l hl => ⟨(HOwn7.out l hl).1, HTr9.out _ _ (HTr8.out _ _ (HOwn7.out l hl).2)⟩)
        have HOw2 : Hid (∀ l, O2 = some l → n8 = l.length ∧ OwnS 9 W6 W9 (.slice A8 n8 c8) (l.map strV)) := Lib.hid (fun l hl => ⟨(HOwn8.out l hl).1, HTr9.out _ _ (HOwn8.out l hl).2⟩)
        have HEnd : Hid (∀ (w10 : World) ev, Q W9 w10 → JoinP [r7, r8, r9] W9 (.returned ev) w10 → StmtP O w (.returned (.tuple #[.agg #[.bool al, .slice A7 n7 c7, .slice A8 n8 c8, .slice A9 n9 c9], ev])) (w10.setRow N1 #[.bool al, .slice A7 n7 c7, .slice A8 n8 c8, .slice A9 n9 c9])) := Lib.hid (fun w10 ev hq hJ =>
          stmt_end HE2.out HIs7.out HIs8.out HIs9.out HOw1.out HOw2.out HOwn9.out hq (HQ5.out.trans HQ9.out) (by have := HM6.out; have := HQ6.out.size; have := lt_of_heap HR5.out; omega) HNl.out (by have := HQ5.out.size; have := HQ6.out.size; omega) (HQ9.out.block HR5.out) hJ)
        have HR9 : Hid (W9.heap[N1]? = some (.cells #[.bool false, .slice none 0 0, .slice none 0 0, .slice none 0 0] 41 (0, 0))) := Lib.hid (HQ9.out.block HR5.out)
        clear HOwn7 HOwn8 HOwn9 HOw1 HOw2 HTr7 HTr8 HTr9 HE2 HIs7 HIs8 HIs9 HO1 HO2 HO3 HLk HM5 HR5
        have z0 : ∀ m : SWA (fun W => W.heap[M6]? = some (.cells #[.bool al, .slice A7 n7 c7, .slice A8 n8 c8, .slice A9 n9 c9] 41 (0, 0))), m.val.heap[M6]? = some (.cells #[.bool al, .slice A7 n7 c7, .slice A8 n8 c8, .slice A9 n9 c9] 41 (0, 0)) := fun m => m.property
        haveI hne : Nonempty (SWA (fun W => W.heap[M6]? = some (.cells #[.bool al, .slice A7 n7 c7, .slice A8 n8 c8, .slice A9 n9 c9] 41 (0, 0)))) := ⟨⟨W9, HRw9.out⟩⟩
        have HInf := Lib.hid (info_stmt (.slice A7 n7 c7) (.slice A8 n8 c8) (.slice A9 n9 c9) al)
        rcases r7 with _ | _ <;> rcases r8 with _ | _ <;> rcases r9 with _ | _
        · simp only [erV, if_true, Bool.false_eq_true, if_false]
          refine wp_plan_A (fun W => W.heap[M6]? = some (.cells #[.bool al, .slice A7 n7 c7, .slice A8 n8 c8, .slice A9 n9 c9] 41 (0, 0))) HRw9.out [([0, 1, 2, 3], [4, 5, 6, 7])] (by kernel_rfl) (by kernel_rfl) (fun c a d v w h => by cases d <;> exact h) ?_
          simp only [wpPlan, wpListK, List.map_cons, List.map_nil, Array.getD_eq_getD_getElem?, List.getElem?_toArray, List.getElem?_cons_succ, List.getElem?_cons_zero, Option.getD_some, Act.put, List.setIfInBounds_toArray, List.set_cons_succ, List.set_cons_zero]
          refine wpQuiet_load_row rfl 41 (.tmp 6) rfl M6 rfl 41 #[.bool al, .slice A7 n7 c7, .slice A8 n8 c8, .slice A9 n9 c9] (0, 0) _ (fun W hW => by obtain ⟨m, rfl⟩ := hW; exact m.property) Tryz.underlying41 rfl HInf.out ?_
          simp only [Act.put, List.setIfInBounds_toArray, List.set_cons_succ, List.set_cons_zero]
          iterate 3 (go_big_quiet_step (fail))
          refine wpQuiet_nil ?_
          intro K hK
          clear hne z0
          have hqb : Q W9 (W9.alloc (.cells #[.nilIface, .nilIface, .nilIface] 27)).drew := ((Q.refl W9).alloc _).drew
          have hx : ∀ k, k < 3 → (W9.alloc (.cells #[.nilIface, .nilIface, .nilIface] 27)).drew.cell? ⟨W9.heap.size, k, none⟩ = some (erV ([false, false, false].getD k false)) := fun k hk => by
            rw [cell_of_row _ _ _ _ _ _ ((Q.refl _).drew.block (heap_alloc_new W9 _))]
            rcases k with _ | _ | _ | k
            · rfl
            · rfl
            · rfl
            · omega
          have HJn := Lib.hid (Join_any [false, false, false] W9.heap.size 3 (W9.alloc (.cells #[.nilIface, .nilIface, .nilIface] 27)).drew (by decide) (by decide) (by decide) hx)
          clear hx
          go_wp2_with fail
          obtain ⟨WB, hWB⟩ : ∃ WB, (W9.alloc (.cells #[.nilIface, .nilIface, .nilIface] 27)).drew = WB := ⟨_, rfl⟩
          obtain ⟨MB, hMB⟩ : ∃ MB, W9.heap.size = MB := ⟨_, rfl⟩
          rw [hWB] at hqb HJn ⊢
          rw [hMB] at HJn ⊢
          have HQB := Lib.hid hqb
          clear hWB hMB hqb
          refine hK.out _ _ ⟨⟨WB, HQB.out.block HRw9.out⟩, rfl⟩ ?_
          clear hK K
          intro K hK
          go_wp2_with fail
          refine HJn.out.mono ?_
          rintro e w10 ⟨hq10, hc⟩
          have HQ10 := Lib.hid (HQB.out.trans hq10)
          have HR10 := Lib.hid (HQ10.out.block HR9.out)
          have HRw10 := Lib.hid (HQ10.out.block HRw9.out)
          have HNe : Hid (M6 ≠ N1) := Lib.hid (fun e => HM6.out.2.2 e.symm)
          have HE2 := Lib.hid (HEnd.out w10)
          clear HEnd HJn hq10
          rcases hc with ⟨-, rfl⟩ | ⟨h0, -⟩
          · have HP := Lib.hid (HE2.out .nilIface HQ10.out ⟨HQ10.out, .inl ⟨rfl, rfl⟩⟩)
            clear HE2
            go_wp2_with fail
            refine hK.out _ _ ⟨⟨w10, HRw10.out⟩, rfl⟩ ?_
            clear hK K
            intro K hK
            refine wpList_store_row rfl 41 (.tmp 2) (.tmp 57) rfl N1 _ rfl rfl 41 _ HR10.out HInf.out rfl (by simp [Value.oneCell']) ?_
            simp only [Act.put]
            go_wp2_with fail
            have HRw11 : Hid ((w10.setRow N1 #[.bool al, .slice A7 n7 c7, .slice A8 n8 c8, .slice A9 n9 c9]).heap[M6]? = some (.cells #[.bool al, .slice A7 n7 c7, .slice A8 n8 c8, .slice A9 n9 c9] 41 (0, 0))) := Lib.hid (by
              simp only [World.setRow, Array.getElem?_modify]
              rw [if_neg HNe.out.symm]; exact HRw10.out)
            have HR11 := Lib.hid (setRow_at HR10.out #[.bool al, .slice A7 n7 c7, .slice A8 n8 c8, .slice A9 n9 c9])
            refine hK.out _ _ ⟨⟨_, HRw11.out⟩, rfl⟩ ?_
            clear hK K
            intro K hK
            go_wp2_with fail
            refine hK.out _ _ ⟨⟨_, HRw11.out⟩, rfl⟩ ?_
            clear hK K
            go_wp2_with fail
            exact bodyPost_ret (results_stmt (p := 2) (q := 3) rfl (by rfl) HR11.out) rfl HP.out
          · simp at h0
        · simp only [erV, if_true, Bool.false_eq_true, if_false]
          refine wp_plan_A (fun W => W.heap[M6]? = some (.cells #[.bool al, .slice A7 n7 c7, .slice A8 n8 c8, .slice A9 n9 c9] 41 (0, 0))) HRw9.out [([0, 1, 2, 3], [4, 5, 6, 7])] (by kernel_rfl) (by kernel_rfl) (fun c a d v w h => by cases d <;> exact h) ?_
          simp only [wpPlan, wpListK, List.map_cons, List.map_nil, Array.getD_eq_getD_getElem?, List.getElem?_toArray, List.getElem?_cons_succ, List.getElem?_cons_zero, Option.getD_some, Act.put, List.setIfInBounds_toArray, List.set_cons_succ, List.set_cons_zero]
          refine wpQuiet_load_row rfl 41 (.tmp 6) rfl M6 rfl 41 #[.bool al, .slice A7 n7 c7, .slice A8 n8 c8, .slice A9 n9 c9] (0, 0) _ (fun W hW => by obtain ⟨m, rfl⟩ := hW; exact m.property) Tryz.underlying41 rfl HInf.out ?_
          simp only [Act.put, List.setIfInBounds_toArray, List.set_cons_succ, List.set_cons_zero]
          iterate 3 (go_big_quiet_step (fail))
          refine wpQuiet_nil ?_
          intro K hK
          clear hne z0
          have hqb : Q W9 (W9.alloc (.cells #[.nilIface, .nilIface, .iface 34 (.int .i64 58)] 27)).drew := ((Q.refl W9).alloc _).drew
          have hx : ∀ k, k < 3 → (W9.alloc (.cells #[.nilIface, .nilIface, .iface 34 (.int .i64 58)] 27)).drew.cell? ⟨W9.heap.size, k, none⟩ = some (erV ([false, false, true].getD k false)) := fun k hk => by
            rw [cell_of_row _ _ _ _ _ _ ((Q.refl _).drew.block (heap_alloc_new W9 _))]
            rcases k with _ | _ | _ | k
            · rfl
            · rfl
            · rfl
            · omega
          have HJn := Lib.hid (Join_any [false, false, true] W9.heap.size 3 (W9.alloc (.cells #[.nilIface, .nilIface, .iface 34 (.int .i64 58)] 27)).drew (by decide) (by decide) (by decide) hx)
          clear hx
          go_wp2_with fail
          obtain ⟨WB, hWB⟩ : ∃ WB, (W9.alloc (.cells #[.nilIface, .nilIface, .iface 34 (.int .i64 58)] 27)).drew = WB := ⟨_, rfl⟩
          obtain ⟨MB, hMB⟩ : ∃ MB, W9.heap.size = MB := ⟨_, rfl⟩
          rw [hWB] at hqb HJn ⊢
          rw [hMB] at HJn ⊢
          have HQB := Lib.hid hqb
          clear hWB hMB hqb
          refine hK.out _ _ ⟨⟨WB, HQB.out.block HRw9.out⟩, rfl⟩ ?_
          clear hK K
          intro K hK
          go_wp2_with fail
          refine HJn.out.mono ?_
          rintro e w10 ⟨hq10, hc⟩
          have HQ10 := Lib.hid (HQB.out.trans hq10)
          have HR10 := Lib.hid (HQ10.out.block HR9.out)
          have HRw10 := Lib.hid (HQ10.out.block HRw9.out)
          have HNe : Hid (M6 ≠ N1) := Lib.hid (fun e => HM6.out.2.2 e.symm)
          have HE2 := Lib.hid (HEnd.out w10)
          clear HEnd HJn hq10
          rcases hc with ⟨h0, -⟩ | ⟨-, bj, rfl, hj⟩
          · simp at h0
          · have HP := Lib.hid (HE2.out (.iface 110 (.pointer (some ⟨bj, 0, none⟩))) HQ10.out ⟨HQ10.out, .inr ⟨rfl, bj, rfl, hj⟩⟩)
            clear HE2 hj
            go_wp2_with fail
            refine hK.out _ _ ⟨⟨w10, HRw10.out⟩, rfl⟩ ?_
            clear hK K
            intro K hK
            refine wpList_store_row rfl 41 (.tmp 2) (.tmp 57) rfl N1 _ rfl rfl 41 _ HR10.out HInf.out rfl (by simp [Value.oneCell']) ?_
            simp only [Act.put]
            go_wp2_with fail
            have HRw11 : Hid ((w10.setRow N1 #[.bool al, .slice A7 n7 c7, .slice A8 n8 c8, .slice A9 n9 c9]).heap[M6]? = some (.cells #[.bool al, .slice A7 n7 c7, .slice A8 n8 c8, .slice A9 n9 c9] 41 (0, 0))) := Lib.hid (by
              simp only [World.setRow, Array.getElem?_modify]
              rw [if_neg HNe.out.symm]; exact HRw10.out)
            have HR11 := Lib.hid (setRow_at HR10.out #[.bool al, .slice A7 n7 c7, .slice A8 n8 c8, .slice A9 n9 c9])
            refine hK.out _ _ ⟨⟨_, HRw11.out⟩, rfl⟩ ?_
            clear hK K
            intro K hK
            go_wp2_with fail
            refine hK.out _ _ ⟨⟨_, HRw11.out⟩, rfl⟩ ?_
            clear hK K
            go_wp2_with fail
            exact bodyPost_ret (results_stmt (p := 2) (q := 3) rfl (by rfl) HR11.out) rfl HP.out
        · simp only [erV, if_true, Bool.false_eq_true, if_false]
          refine wp_plan_A (fun W => W.heap[M6]? = some (.cells #[.bool al, .slice A7 n7 c7, .slice A8 n8 c8, .slice A9 n9 c9] 41 (0, 0))) HRw9.out [([0, 1, 2, 3], [4, 5, 6, 7])] (by kernel_rfl) (by kernel_rfl) (fun c a d v w h => by cases d <;> exact h) ?_
          simp only [wpPlan, wpListK, List.map_cons, List.map_nil, Array.getD_eq_getD_getElem?, List.getElem?_toArray, List.getElem?_cons_succ, List.getElem?_cons_zero, Option.getD_some, Act.put, List.setIfInBounds_toArray, List.set_cons_succ, List.set_cons_zero]
          refine wpQuiet_load_row rfl 41 (.tmp 6) rfl M6 rfl 41 #[.bool al, .slice A7 n7 c7, .slice A8 n8 c8, .slice A9 n9 c9] (0, 0) _ (fun W hW => by obtain ⟨m, rfl⟩ := hW; exact m.property) Tryz.underlying41 rfl HInf.out ?_
          simp only [Act.put, List.setIfInBounds_toArray, List.set_cons_succ, List.set_cons_zero]
          iterate 3 (go_big_quiet_step (fail))
          refine wpQuiet_nil ?_
          intro K hK
          clear hne z0
          have hqb : Q W9 (W9.alloc (.cells #[.nilIface, .iface 34 (.int .i64 58), .nilIface] 27)).drew := ((Q.refl W9).alloc _).drew
          have hx : ∀ k, k < 3 → (W9.alloc (.cells #[.nilIface, .iface 34 (.int .i64 58), .nilIface] 27)).drew.cell? ⟨W9.heap.size, k, none⟩ = some (erV ([false, true, false].getD k false)) := fun k hk => by
            rw [cell_of_row _ _ _ _ _ _ ((Q.refl _).drew.block (heap_alloc_new W9 _))]
            rcases k with _ | _ | _ | k
            · rfl
            · rfl
            · rfl
            · omega
          have HJn := Lib.hid (Join_any [false, true, false] W9.heap.size 3 (W9.alloc (.cells #[.nilIface, .iface 34 (.int .i64 58), .nilIface] 27)).drew (by decide) (by decide) (by decide) hx)
          clear hx
          go_wp2_with fail
          obtain ⟨WB, hWB⟩ : ∃ WB, (W9.alloc (.cells #[.nilIface, .iface 34 (.int .i64 58), .nilIface] 27)).drew = WB := ⟨_, rfl⟩
          obtain ⟨MB, hMB⟩ : ∃ MB, W9.heap.size = MB := ⟨_, rfl⟩
          rw [hWB] at hqb HJn ⊢
          rw [hMB] at HJn ⊢
          have HQB := Lib.hid hqb
          clear hWB hMB hqb
          refine hK.out _ _ ⟨⟨WB, HQB.out.block HRw9.out⟩, rfl⟩ ?_
          clear hK K
          intro K hK
          go_wp2_with fail
          refine HJn.out.mono ?_
          rintro e w10 ⟨hq10, hc⟩
          have HQ10 := Lib.hid (HQB.out.trans hq10)
          have HR10 := Lib.hid (HQ10.out.block HR9.out)
          have HRw10 := Lib.hid (HQ10.out.block HRw9.out)
          have HNe : Hid (M6 ≠ N1) := Lib.hid (fun e => HM6.out.2.2 e.symm)
          have HE2 := Lib.hid (HEnd.out w10)
          clear HEnd HJn hq10
          rcases hc with ⟨h0, -⟩ | ⟨-, bj, rfl, hj⟩
          · simp at h0
          · have HP := Lib.hid (HE2.out (.iface 110 (.pointer (some ⟨bj, 0, none⟩))) HQ10.out ⟨HQ10.out, .inr ⟨rfl, bj, rfl, hj⟩⟩)
            clear HE2 hj
            go_wp2_with fail
            refine hK.out _ _ ⟨⟨w10, HRw10.out⟩, rfl⟩ ?_
            clear hK K
            intro K hK
            refine wpList_store_row rfl 41 (.tmp 2) (.tmp 57) rfl N1 _ rfl rfl 41 _ HR10.out HInf.out rfl (by simp [Value.oneCell']) ?_
            simp only [Act.put]
            go_wp2_with fail
            have HRw11 : Hid ((w10.setRow N1 #[.bool al, .slice A7 n7 c7, .slice A8 n8 c8, .slice A9 n9 c9]).heap[M6]? = some (.cells #[.bool al, .slice A7 n7 c7, .slice A8 n8 c8, .slice A9 n9 c9] 41 (0, 0))) := Lib.hid (by
              simp only [World.setRow, Array.getElem?_modify]
              rw [if_neg HNe.out.symm]; exact HRw10.out)
            have HR11 := Lib.hid (setRow_at HR10.out #[.bool al, .slice A7 n7 c7, .slice A8 n8 c8, .slice A9 n9 c9])
            refine hK.out _ _ ⟨⟨_, HRw11.out⟩, rfl⟩ ?_
            clear hK K
            intro K hK
            go_wp2_with fail
            refine hK.out _ _ ⟨⟨_, HRw11.out⟩, rfl⟩ ?_
            clear hK K
            go_wp2_with fail
            exact bodyPost_ret (results_stmt (p := 2) (q := 3) rfl (by rfl) HR11.out) rfl HP.out
        · simp only [erV, if_true, Bool.false_eq_true, if_false]
          refine wp_plan_A (fun W => W.heap[M6]? = some (.cells #[.bool al, .slice A7 n7 c7, .slice A8 n8 c8, .slice A9 n9 c9] 41 (0, 0))) HRw9.out [([0, 1, 2, 3], [4, 5, 6, 7])] (by kernel_rfl) (by kernel_rfl) (fun c a d v w h => by cases d <;> exact h) ?_
          simp only [wpPlan, wpListK, List.map_cons, List.map_nil, Array.getD_eq_getD_getElem?, List.getElem?_toArray, List.getElem?_cons_succ, List.getElem?_cons_zero, Option.getD_some, Act.put, List.setIfInBounds_toArray, List.set_cons_succ, List.set_cons_zero]
          refine wpQuiet_load_row rfl 41 (.tmp 6) rfl M6 rfl 41 #[.bool al, .slice A7 n7 c7, .slice A8 n8 c8, .slice A9 n9 c9] (0, 0) _ (fun W hW => by obtain ⟨m, rfl⟩ := hW; exact m.property) Tryz.underlying41 rfl HInf.out ?_
          simp only [Act.put, List.setIfInBounds_toArray, List.set_cons_succ, List.set_cons_zero]
          iterate 3 (go_big_quiet_step (fail))
          refine wpQuiet_nil ?_
          intro K hK
          clear hne z0
          have hqb : Q W9 (W9.alloc (.cells #[.nilIface, .iface 34 (.int .i64 58), .iface 34 (.int .i64 58)] 27)).drew := ((Q.refl W9).alloc _).drew
          have hx : ∀ k, k < 3 → (W9.alloc (.cells #[.nilIface, .iface 34 (.int .i64 58), .iface 34 (.int .i64 58)] 27)).drew.cell? ⟨W9.heap.size, k, none⟩ = some (erV ([false, true, true].getD k false)) := fun k hk => by
            rw [cell_of_row _ _ _ _ _ _ ((Q.refl _).drew.block (heap_alloc_new W9 _))]
            rcases k with _ | _ | _ | k
            · rfl
            · rfl
            · rfl
            · omega
          have HJn := Lib.hid (Join_any [false, true, true] W9.heap.size 3 (W9.alloc (.cells #[.nilIface, .iface 34 (.int .i64 58), .iface 34 (.int .i64 58)] 27)).drew (by decide) (by decide) (by decide) hx)
          clear hx
          go_wp2_with fail
          obtain ⟨WB, hWB⟩ : ∃ WB, (W9.alloc (.cells #[.nilIface, .iface 34 (.int .i64 58), .iface 34 (.int .i64 58)] 27)).drew = WB := ⟨_, rfl⟩
          obtain ⟨MB, hMB⟩ : ∃ MB, W9.heap.size = MB := ⟨_, rfl⟩
          rw [hWB] at hqb HJn ⊢
          rw [hMB] at HJn ⊢
          have HQB := Lib.hid hqb
          clear hWB hMB hqb
          refine hK.out _ _ ⟨⟨WB, HQB.out.block HRw9.out⟩, rfl⟩ ?_
          clear hK K
          intro K hK
          go_wp2_with fail
          refine HJn.out.mono ?_
          rintro e w10 ⟨hq10, hc⟩
          have HQ10 := Lib.hid (HQB.out.trans hq10)
          have HR10 := Lib.hid (HQ10.out.block HR9.out)
          have HRw10 := Lib.hid (HQ10.out.block HRw9.out)
          have HNe : Hid (M6 ≠ N1) := Lib.hid (fun e => HM6.out.2.2 e.symm)
          have HE2 := Lib.hid (HEnd.out w10)
          clear HEnd HJn hq10
          rcases hc with ⟨h0, -⟩ | ⟨-, bj, rfl, hj⟩
          · simp at h0
          · have HP := Lib.hid (HE2.out (.iface 110 (.pointer (some ⟨bj, 0, none⟩))) HQ10.out ⟨HQ10.out, .inr ⟨rfl, bj, rfl, hj⟩⟩)
            clear HE2 hj
            go_wp2_with fail
            refine hK.out _ _ ⟨⟨w10, HRw10.out⟩, rfl⟩ ?_
            clear hK K
            intro K hK
            refine wpList_store_row rfl 41 (.tmp 2) (.tmp 57) rfl N1 _ rfl rfl 41 _ HR10.out HInf.out rfl (by simp [Value.oneCell']) ?_
            simp only [Act.put]
            go_wp2_with fail
            have HRw11 : Hid ((w10.setRow N1 #[.bool al, .slice A7 n7 c7, .slice A8 n8 c8, .slice A9 n9 c9]).heap[M6]? = some (.cells #[.bool al, .slice A7 n7 c7, .slice A8 n8 c8, .slice A9 n9 c9] 41 (0, 0))) := Lib.hid (by
              simp only [World.setRow, Array.getElem?_modify]
              rw [if_neg HNe.out.symm]; exact HRw10.out)
            have HR11 := Lib.hid (setRow_at HR10.out #[.bool al, .slice A7 n7 c7, .slice A8 n8 c8, .slice A9 n9 c9])
            refine hK.out _ _ ⟨⟨_, HRw11.out⟩, rfl⟩ ?_
            clear hK K
            intro K hK
            go_wp2_with fail
            refine hK.out _ _ ⟨⟨_, HRw11.out⟩, rfl⟩ ?_
            clear hK K
            go_wp2_with fail
            exact bodyPost_ret (results_stmt (p := 2) (q := 3) rfl (by rfl) HR11.out) rfl HP.out
        · simp only [erV, if_true, Bool.false_eq_true, if_false]
          refine wp_plan_A (fun W => W.heap[M6]? = some (.cells #[.bool al, .slice A7 n7 c7, .slice A8 n8 c8, .slice A9 n9 c9] 41 (0, 0))) HRw9.out [([0, 1, 2, 3], [4, 5, 6, 7])] (by kernel_rfl) (by kernel_rfl) (fun c a d v w h => by cases d <;> exact h) ?_
          simp only [wpPlan, wpListK, List.map_cons, List.map_nil, Array.getD_eq_getD_getElem?, List.getElem?_toArray, List.getElem?_cons_succ, List.getElem?_cons_zero, Option.getD_some, Act.put, List.setIfInBounds_toArray, List.set_cons_succ, List.set_cons_zero]
          refine wpQuiet_load_row rfl 41 (.tmp 6) rfl M6 rfl 41 #[.bool al, .slice A7 n7 c7, .slice A8 n8 c8, .slice A9 n9 c9] (0, 0) _ (fun W hW => by obtain ⟨m, rfl⟩ := hW; exact m.property) Tryz.underlying41 rfl HInf.out ?_
          simp only [Act.put, List.setIfInBounds_toArray, List.set_cons_succ, List.set_cons_zero]
          iterate 3 (go_big_quiet_step (fail))
          refine wpQuiet_nil ?_
          intro K hK
          clear hne z0
          have hqb : Q W9 (W9.alloc (.cells #[.iface 34 (.int .i64 58), .nilIface, .nilIface] 27)).drew := ((Q.refl W9).alloc _).drew
          have hx : ∀ k, k < 3 → (W9.alloc (.cells #[.iface 34 (.int .i64 58), .nilIface, .nilIface] 27)).drew.cell? ⟨W9.heap.size, k, none⟩ = some (erV ([true, false, false].getD k false)) := fun k hk => by
            rw [cell_of_row _ _ _ _ _ _ ((Q.refl _).drew.block (heap_alloc_new W9 _))]
            rcases k with _ | _ | _ | k
            · rfl
            · rfl
            · rfl
            · omega
          have HJn := Lib.hid (Join_any [true, false, false] W9.heap.size 3 (W9.alloc (.cells #[.iface 34 (.int .i64 58), .nilIface, .nilIface] 27)).drew (by decide) (by decide) (by decide) hx)
          clear hx
          go_wp2_with fail
          obtain ⟨WB, hWB⟩ : ∃ WB, (W9.alloc (.cells #[.iface 34 (.int .i64 58), .nilIface, .nilIface] 27)).drew = WB := ⟨_, rfl⟩
          obtain ⟨MB, hMB⟩ : ∃ MB, W9.heap.size = MB := ⟨_, rfl⟩
          rw [hWB] at hqb HJn ⊢
          rw [hMB] at HJn ⊢
          have HQB := Lib.hid hqb
          clear hWB hMB hqb
          refine hK.out _ _ ⟨⟨WB, HQB.out.block HRw9.out⟩, rfl⟩ ?_
          clear hK K
          intro K hK
          go_wp2_with fail
          refine HJn.out.mono ?_
          rintro e w10 ⟨hq10, hc⟩
          have HQ10 := Lib.hid (HQB.out.trans hq10)
          have HR10 := Lib.hid (HQ10.out.block HR9.out)
          have HRw10 := Lib.hid (HQ10.out.block HRw9.out)
          have HNe : Hid (M6 ≠ N1) := Lib.hid (fun e => HM6.out.2.2 e.symm)
          have HE2 := Lib.hid (HEnd.out w10)
          clear HEnd HJn hq10
          rcases hc with ⟨h0, -⟩ | ⟨-, bj, rfl, hj⟩
          · simp at h0
          · have HP := Lib.hid (HE2.out (.iface 110 (.pointer (some ⟨bj, 0, none⟩))) HQ10.out ⟨HQ10.out, .inr ⟨rfl, bj, rfl, hj⟩⟩)
            clear HE2 hj
            go_wp2_with fail
            refine hK.out _ _ ⟨⟨w10, HRw10.out⟩, rfl⟩ ?_
            clear hK K
            intro K hK
            refine wpList_store_row rfl 41 (.tmp 2) (.tmp 57) rfl N1 _ rfl rfl 41 _ HR10.out HInf.out rfl (by simp [Value.oneCell']) ?_
            simp only [Act.put]
            go_wp2_with fail
            have HRw11 : Hid ((w10.setRow N1 #[.bool al, .slice A7 n7 c7, .slice A8 n8 c8, .slice A9 n9 c9]).heap[M6]? = some (.cells #[.bool al, .slice A7 n7 c7, .slice A8 n8 c8, .slice A9 n9 c9] 41 (0, 0))) := Lib.hid (by
              simp only [World.setRow, Array.getElem?_modify]
              rw [if_neg HNe.out.symm]; exact HRw10.out)
            have HR11 := Lib.hid (setRow_at HR10.out #[.bool al, .slice A7 n7 c7, .slice A8 n8 c8, .slice A9 n9 c9])
            refine hK.out _ _ ⟨⟨_, HRw11.out⟩, rfl⟩ ?_
            clear hK K
            intro K hK
            go_wp2_with fail
            refine hK.out _ _ ⟨⟨_, HRw11.out⟩, rfl⟩ ?_
            clear hK K
            go_wp2_with fail
            exact bodyPost_ret (results_stmt (p := 2) (q := 3) rfl (by rfl) HR11.out) rfl HP.out
        · simp only [erV, if_true, Bool.false_eq_true, if_false]
          refine wp_plan_A (fun W => W.heap[M6]? = some (.cells #[.bool al, .slice A7 n7 c7, .slice A8 n8 c8, .slice A9 n9 c9] 41 (0, 0))) HRw9.out [([0, 1, 2, 3], [4, 5, 6, 7])] (by kernel_rfl) (by kernel_rfl) (fun c a d v w h => by cases d <;> exact h) ?_
          simp only [wpPlan, wpListK, List.map_cons, List.map_nil, Array.getD_eq_getD_getElem?, List.getElem?_toArray, List.getElem?_cons_succ, List.getElem?_cons_zero, Option.getD_some, Act.put, List.setIfInBounds_toArray, List.set_cons_succ, List.set_cons_zero]
          refine wpQuiet_load_row rfl 41 (.tmp 6) rfl M6 rfl 41 #[.bool al, .slice A7 n7 c7, .slice A8 n8 c8, .slice A9 n9 c9] (0, 0) _ (fun W hW => by obtain ⟨m, rfl⟩ := hW; exact m.property) Tryz.underlying41 rfl HInf.out ?_
          simp only [Act.put, List.setIfInBounds_toArray, List.set_cons_succ, List.set_cons_zero]
          iterate 3 (go_big_quiet_step (fail))
          refine wpQuiet_nil ?_
          intro K hK
          clear hne z0
          have hqb : Q W9 (W9.alloc (.cells #[.iface 34 (.int .i64 58), .nilIface, .iface 34 (.int .i64 58)] 27)).drew := ((Q.refl W9).alloc _).drew
          have hx : ∀ k, k < 3 → (W9.alloc (.cells #[.iface 34 (.int .i64 58), .nilIface, .iface 34 (.int .i64 58)] 27)).drew.cell? ⟨W9.heap.size, k, none⟩ = some (erV ([true, false, true].getD k false)) := fun k hk => by
            rw [cell_of_row _ _ _ _ _ _ ((Q.refl _).drew.block (heap_alloc_new W9 _))]
            rcases k with _ | _ | _ | k
            · rfl
            · rfl
            · rfl
            · omega
          have HJn := Lib.hid (Join_any [true, false, true] W9.heap.size 3 (W9.alloc (.cells #[.iface 34 (.int .i64 58), .nilIface, .iface 34 (.int .i64 58)] 27)).drew (by decide) (by decide) (by decide) hx)
          clear hx
          go_wp2_with fail
          obtain ⟨WB, hWB⟩ : ∃ WB, (W9.alloc (.cells #[.iface 34 (.int .i64 58), .nilIface, .iface 34 (.int .i64 58)] 27)).drew = WB := ⟨_, rfl⟩
          obtain ⟨MB, hMB⟩ : ∃ MB, W9.heap.size = MB := ⟨_, rfl⟩
          rw [hWB] at hqb HJn ⊢
          rw [hMB] at HJn ⊢
          have HQB := Lib.hid hqb
          clear hWB hMB hqb
          refine hK.out _ _ ⟨⟨WB, HQB.out.block HRw9.out⟩, rfl⟩ ?_
          clear hK K
          intro K hK
          go_wp2_with fail
          refine HJn.out.mono ?_
          rintro e w10 ⟨hq10, hc⟩
          have HQ10 := Lib.hid (HQB.out.trans hq10)
          have HR10 := Lib.hid (HQ10.out.block HR9.out)
          have HRw10 := Lib.hid (HQ10.out.block HRw9.out)
          have HNe : Hid (M6 ≠ N1) := Lib.hid (fun e => HM6.out.2.2 e.symm)
          have HE2 := Lib.hid (HEnd.out w10)
          clear HEnd HJn hq10
          rcases hc with ⟨h0, -⟩ | ⟨-, bj, rfl, hj⟩
          · simp at h0
          · have HP := Lib.hid (HE2.out (.iface 110 (.pointer (some ⟨bj, 0, none⟩))) HQ10.out ⟨HQ10.out, .inr ⟨rfl, bj, rfl, hj⟩⟩)
            clear HE2 hj
            go_wp2_with fail
            refine hK.out _ _ ⟨⟨w10, HRw10.out⟩, rfl⟩ ?_
            clear hK K
            intro K hK
            refine wpList_store_row rfl 41 (.tmp 2) (.tmp 57) rfl N1 _ rfl rfl 41 _ HR10.out HInf.out rfl (by simp [Value.oneCell']) ?_
            simp only [Act.put]
            go_wp2_with fail
            have HRw11 : Hid ((w10.setRow N1 #[.bool al, .slice A7 n7 c7, .slice A8 n8 c8, .slice A9 n9 c9]).heap[M6]? = some (.cells #[.bool al, .slice A7 n7 c7, .slice A8 n8 c8, .slice A9 n9 c9] 41 (0, 0))) := Lib.hid (by
              simp only [World.setRow, Array.getElem?_modify]
              rw [if_neg HNe.out.symm]; exact HRw10.out)
            have HR11 := Lib.hid (setRow_at HR10.out #[.bool al, .slice A7 n7 c7, .slice A8 n8 c8, .slice A9 n9 c9])
            refine hK.out _ _ ⟨⟨_, HRw11.out⟩, rfl⟩ ?_
            clear hK K
            intro K hK
            go_wp2_with fail
            refine hK.out _ _ ⟨⟨_, HRw11.out⟩, rfl⟩ ?_
            clear hK K
            go_wp2_with fail
            exact bodyPost_ret (results_stmt (p := 2) (q := 3) rfl (by rfl) HR11.out) rfl HP.out
        · simp only [erV, if_true, Bool.false_eq_true, if_false]
          refine wp_plan_A (fun W => W.heap[M6]? = some (.cells #[.bool al, .slice A7 n7 c7, .slice A8 n8 c8, .slice A9 n9 c9] 41 (0, 0))) HRw9.out [([0, 1, 2, 3], [4, 5, 6, 7])] (by kernel_rfl) (by kernel_rfl) (fun c a d v w h => by cases d <;> exact h) ?_
          simp only [wpPlan, wpListK, List.map_cons, List.map_nil, Array.getD_eq_getD_getElem?, List.getElem?_toArray, List.getElem?_cons_succ, List.getElem?_cons_zero, Option.getD_some, Act.put, List.setIfInBounds_toArray, List.set_cons_succ, List.set_cons_zero]
          refine wpQuiet_load_row rfl 41 (.tmp 6) rfl M6 rfl 41 #[.bool al, .slice A7 n7 c7, .slice A8 n8 c8, .slice A9 n9 c9] (0, 0) _ (fun W hW => by obtain ⟨m, rfl⟩ := hW; exact m.property) Tryz.underlying41 rfl HInf.out ?_
          simp only [Act.put, List.setIfInBounds_toArray, List.set_cons_succ, List.set_cons_zero]
          iterate 3 (go_big_quiet_step (fail))
          refine wpQuiet_nil ?_
          intro K hK
          clear hne z0
          have hqb : Q W9 (W9.alloc (.cells #[.iface 34 (.int .i64 58), .iface 34 (.int .i64 58), .nilIface] 27)).drew := ((Q.refl W9).alloc _).drew
          have hx : ∀ k, k < 3 → (W9.alloc (.cells #[.iface 34 (.int .i64 58), .iface 34 (.int .i64 58), .nilIface] 27)).drew.cell? ⟨W9.heap.size, k, none⟩ = some (erV ([true, true, false].getD k false)) := fun k hk => by
            rw [cell_of_row _ _ _ _ _ _ ((Q.refl _).drew.block (heap_alloc_new W9 _))]
            rcases k with _ | _ | _ | k
            · rfl
            · rfl
            · rfl
            · omega
          have HJn := Lib.hid (Join_any [true, true, false] W9.heap.size 3 (W9.alloc (.cells #[.iface 34 (.int .i64 58), .iface 34 (.int .i64 58), .nilIface] 27)).drew (by decide) (by decide) (by decide) hx)
          clear hx
          go_wp2_with fail
          obtain ⟨WB, hWB⟩ : ∃ WB, (W9.alloc (.cells #[.iface 34 (.int .i64 58), .iface 34 (.int .i64 58), .nilIface] 27)).drew = WB := ⟨_, rfl⟩
          obtain ⟨MB, hMB⟩ : ∃ MB, W9.heap.size = MB := ⟨_, rfl⟩
          rw [hWB] at hqb HJn ⊢
          rw [hMB] at HJn ⊢
          have HQB := Lib.hid hqb
          clear hWB hMB hqb
          refine hK.out _ _ ⟨⟨WB, HQB.out.block HRw9.out⟩, rfl⟩ ?_
          clear hK K
          intro K hK
          go_wp2_with fail
          refine HJn.out.mono ?_
          rintro e w10 ⟨hq10, hc⟩
          have HQ10 := Lib.hid (HQB.out.trans hq10)
          have HR10 := Lib.hid (HQ10.out.block HR9.out)
          have HRw10 := Lib.hid (HQ10.out.block HRw9.out)
          have HNe : Hid (M6 ≠ N1) := Lib.hid (fun e => HM6.out.2.2 e.symm)
          have HE2 := Lib.hid (HEnd.out w10)
          clear HEnd HJn hq10
          rcases hc with ⟨h0, -⟩ | ⟨-, bj, rfl, hj⟩
          · simp at h0
          · have HP := Lib.hid (HE2.out (.iface 110 (.pointer (some ⟨bj, 0, none⟩))) HQ10.out ⟨HQ10.out, .inr ⟨rfl, bj, rfl, hj⟩⟩)
            clear HE2 hj
            go_wp2_with fail
            refine hK.out _ _ ⟨⟨w10, HRw10.out⟩, rfl⟩ ?_
            clear hK K
            intro K hK
            refine wpList_store_row rfl 41 (.tmp 2) (.tmp 57) rfl N1 _ rfl rfl 41 _ HR10.out HInf.out rfl (by simp [Value.oneCell']) ?_
            simp only [Act.put]
            go_wp2_with fail
            have HRw11 : Hid ((w10.setRow N1 #[.bool al, .slice A7 n7 c7, .slice A8 n8 c8, .slice A9 n9 c9]).heap[M6]? = some (.cells #[.bool al, .slice A7 n7 c7, .slice A8 n8 c8, .slice A9 n9 c9] 41 (0, 0))) := Lib.hid (by
              simp only [World.setRow, Array.getElem?_modify]
              rw [if_neg HNe.out.symm]; exact HRw10.out)
            have HR11 := Lib.hid (setRow_at HR10.out #[.bool al, .slice A7 n7 c7, .slice A8 n8 c8, .slice A9 n9 c9])
            refine hK.out _ _ ⟨⟨_, HRw11.out⟩, rfl⟩ ?_
            clear hK K
            intro K hK
            go_wp2_with fail
            refine hK.out _ _ ⟨⟨_, HRw11.out⟩, rfl⟩ ?_
            clear hK K
            go_wp2_with fail
            exact bodyPost_ret (results_stmt (p := 2) (q := 3) rfl (by rfl) HR11.out) rfl HP.out
        · simp only [erV, if_true, Bool.false_eq_true, if_false]
          refine wp_plan_A (fun W => W.heap[M6]? = some (.cells #[.bool al, .slice A7 n7 c7, .slice A8 n8 c8, .slice A9 n9 c9] 41 (0, 0))) HRw9.out [([0, 1, 2, 3], [4, 5, 6, 7])] (by kernel_rfl) (by kernel_rfl) (fun c a d v w h => by cases d <;> exact h) ?_
          simp only [wpPlan, wpListK, List.map_cons, List.map_nil, Array.getD_eq_getD_getElem?, List.getElem?_toArray, List.getElem?_cons_succ, List.getElem?_cons_zero, Option.getD_some, Act.put, List.setIfInBounds_toArray, List.set_cons_succ, List.set_cons_zero]
          refine wpQuiet_load_row rfl 41 (.tmp 6) rfl M6 rfl 41 #[.bool al, .slice A7 n7 c7, .slice A8 n8 c8, .slice A9 n9 c9] (0, 0) _ (fun W hW => by obtain ⟨m, rfl⟩ := hW; exact m.property) Tryz.underlying41 rfl HInf.out ?_
          simp only [Act.put, List.setIfInBounds_toArray, List.set_cons_succ, List.set_cons_zero]
          iterate 3 (go_big_quiet_step (fail))
          refine wpQuiet_nil ?_
          intro K hK
          clear hne z0
          have hqb : Q W9 (W9.alloc (.cells #[.iface 34 (.int .i64 58), .iface 34 (.int .i64 58), .iface 34 (.int .i64 58)] 27)).drew := ((Q.refl W9).alloc _).drew
          have hx : ∀ k, k < 3 → (W9.alloc (.cells #[.iface 34 (.int .i64 58), .iface 34 (.int .i64 58), .iface 34 (.int .i64 58)] 27)).drew.cell? ⟨W9.heap.size, k, none⟩ = some (erV ([true, true, true].getD k false)) := fun k hk => by
            rw [cell_of_row _ _ _ _ _ _ ((Q.refl _).drew.block (heap_alloc_new W9 _))]
            rcases k with _ | _ | _ | k
            · rfl
            · rfl
            · rfl
            · omega
          have HJn := Lib.hid (Join_any [true, true, true] W9.heap.size 3 (W9.alloc (.cells #[.iface 34 (.int .i64 58), .iface 34 (.int .i64 58), .iface 34 (.int .i64 58)] 27)).drew (by decide) (by decide) (by decide) hx)
          clear hx
          go_wp2_with fail
          obtain ⟨WB, hWB⟩ : ∃ WB, (W9.alloc (.cells #[.iface 34 (.int .i64 58), .iface 34 (.int .i64 58), .iface 34 (.int .i64 58)] 27)).drew = WB := ⟨_, rfl⟩
          obtain ⟨MB, hMB⟩ : ∃ MB, W9.heap.size = MB := ⟨_, rfl⟩
          rw [hWB] at hqb HJn ⊢
          rw [hMB] at HJn ⊢
          have HQB := Lib.hid hqb
          clear hWB hMB hqb
          refine hK.out _ _ ⟨⟨WB, HQB.out.block HRw9.out⟩, rfl⟩ ?_
          clear hK K
          intro K hK
          go_wp2_with fail
          refine HJn.out.mono ?_
          rintro e w10 ⟨hq10, hc⟩
          have HQ10 := Lib.hid (HQB.out.trans hq10)
          have HR10 := Lib.hid (HQ10.out.block HR9.out)
          have HRw10 := Lib.hid (HQ10.out.block HRw9.out)
          have HNe : Hid (M6 ≠ N1) := Lib.hid (fun e => HM6.out.2.2 e.symm)
          have HE2 := Lib.hid (HEnd.out w10)
          clear HEnd HJn hq10
          rcases hc with ⟨h0, -⟩ | ⟨-, bj, rfl, hj⟩
          · simp at h0
          · have HP := Lib.hid (HE2.out (.iface 110 (.pointer (some ⟨bj, 0, none⟩))) HQ10.out ⟨HQ10.out, .inr ⟨rfl, bj, rfl, hj⟩⟩)
            clear HE2 hj
            go_wp2_with fail
            refine hK.out _ _ ⟨⟨w10, HRw10.out⟩, rfl⟩ ?_
            clear hK K
            intro K hK
            refine wpList_store_row rfl 41 (.tmp 2) (.tmp 57) rfl N1 _ rfl rfl 41 _ HR10.out HInf.out rfl (by simp [Value.oneCell']) ?_
            simp only [Act.put]
            go_wp2_with fail
            have HRw11 : Hid ((w10.setRow N1 #[.bool al, .slice A7 n7 c7, .slice A8 n8 c8, .slice A9 n9 c9]).heap[M6]? = some (.cells #[.bool al, .slice A7 n7 c7, .slice A8 n8 c8, .slice A9 n9 c9] 41 (0, 0))) := Lib.hid (by
              simp only [World.setRow, Array.getElem?_modify]
              rw [if_neg HNe.out.symm]; exact HRw10.out)
            have HR11 := Lib.hid (setRow_at HR10.out #[.bool al, .slice A7 n7 c7, .slice A8 n8 c8, .slice A9 n9 c9])
            refine hK.out _ _ ⟨⟨_, HRw11.out⟩, rfl⟩ ?_
            clear hK K
            intro K hK
            go_wp2_with fail
            refine hK.out _ _ ⟨⟨_, HRw11.out⟩, rfl⟩ ?_
            clear hK K
            go_wp2_with fail
            exact bodyPost_ret (results_stmt (p := 2) (q := 3) rfl (by rfl) HR11.out) rfl HP.out
  · have HX : Hid (O = none) := Lib.hid (by rw [← HO.out]; exact stmt_no k t ns ks ho)
    have HP : Hid (StmtP O w (.returned (.tuple #[.agg #[.bool false, .slice none 0 0, .slice none 0 0, .slice none 0 0], .iface 34 (.int .i64 58)])) (w2.setRow N1 #[.bool false, .slice none 0 0, .slice none 0 0, .slice none 0 0])) := Lib.hid (by rw [HX.out]; exact stmt_ref HQ2.out HNl.out)
    have HR3 := Lib.hid (setRow_at HR2.out #[.bool false, .slice none 0 0, .slice none 0 0, .slice none 0 0])
    clear ho
    go_upto_region 3 with (fail)
    iterate 7 go_step
    refine wpList_store_row rfl 41 (.tmp 2) (.tmp 18) rfl N1 _ rfl rfl 41 _ HR2.out hzi rfl (by simp [Value.oneCell']) ?_
    simp only [Act.put]
    go_wp2_with fail
    exact bodyPost_ret (results_stmt (p := 2) (q := 3) rfl (by rfl) HR3.out) rfl HP.out
end Go.Proofs.YtlhhiiemojhjdaaGreatDoor
