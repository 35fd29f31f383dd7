/- Texts of this proof, laid into one: PoK, PoL, PoM, PoN, PoP. -/
import Derived.Test.YtlhhiiemojhjdaaGreatDoorMt19
set_option linter.unusedVariables false
set_option linter.unusedSimpArgs false
namespace Go.Proofs.YtlhhiiemojhjdaaGreatDoor
open Go Go.RowKit
def allL (l : JsonD) : List JsonD := if l.kind = 6 then l.kids else [l]
theorem stmts_one {l : JsonD} (h : ¬ l.kind = 7) : stmtsJ [l] = none := by
  have h1 : stmtJ l = none := by
    obtain ⟨k, t, ns, ks⟩ := l
    exact stmt_no k t ns ks (only_kind h)
  rw [stmtsJ, h1]
def threeN : List Txt := [nVersion, nId, nStatement]
theorem policy_eq (k : Int) (t : Txt) (ns : List Txt) (ks : List JsonD) (h : onlyJ (.mk k t ns ks) threeN = true) :
    policyJ (.mk k t ns ks) = if isTextJ ((ns.zip ks).lookup nVersion) false [nDate] && isTextJ ((ns.zip ks).lookup nId) false [] then
      (if 1 ≤ (allL (orJ ((ns.zip ks).lookup nStatement))).length ∧ (allL (orJ ((ns.zip ks).lookup nStatement))).length ≤ 10 then stmtsJ (allL (orJ ((ns.zip ks).lookup nStatement))) else none) else none := by
  unfold policyJ
  have h' : onlyJ (.mk k t ns ks) [nVersion, nId, nStatement] = true := h
  rw [h', Bool.true_and]
  show (if (isTextJ ((ns.zip ks).lookup nVersion) false [nDate] && isTextJ ((ns.zip ks).lookup nId) false []) = true then (if 1 ≤ (allJ ((ns.zip ks).lookup nStatement)).length ∧ (allJ ((ns.zip ks).lookup nStatement)).length ≤ 10 then stmtsJ (allJ ((ns.zip ks).lookup nStatement)) else none) else none) = _
  by_cases hR : (isTextJ ((ns.zip ks).lookup nVersion) false [nDate] && isTextJ ((ns.zip ks).lookup nId) false []) = true
  · rw [if_pos hR, if_pos hR]
    cases hl : (ns.zip ks).lookup nStatement with
    | none =>
      have e1 : allJ none = [] := rfl
      have e2 : allL (orJ none) = [zeroJ] := rfl
      rw [e1, e2, if_neg (by simp), if_pos (by simp), stmts_one (by decide)]
    | some l =>
      have e2 : allL (orJ (some l)) = if l.kind = 6 then l.kids else [l] := rfl
      have e1 : allJ (some l) = if l.kind = 6 then l.kids else if l.kind = 7 then [l] else [] := rfl
      rw [e1, e2]
      by_cases h6 : l.kind = 6
      · rw [if_pos h6, if_pos h6]
      · rw [if_neg h6, if_neg h6]
        by_cases h7 : l.kind = 7
        · rw [if_pos h7]
        · rw [if_neg h7, if_neg (by simp), if_pos (by simp), stmts_one h7]
  · rw [if_neg hR, if_neg hR]
theorem policy_no (k : Int) (t : Txt) (ns : List Txt) (ks : List JsonD) (h : onlyJ (.mk k t ns ks) threeN = false) : policyJ (.mk k t ns ks) = none := by
  unfold policyJ
  have h' : onlyJ (.mk k t ns ks) [nVersion, nId, nStatement] = false := h
  rw [h']; rfl
theorem stmts_snoc (l : List JsonD) (j : JsonD) {a : List StmtD} {s : StmtD} (h1 : stmtsJ l = some a) (h2 : stmtJ j = some s) : stmtsJ (l ++ [j]) = some (a ++ [s]) := by
  induction l generalizing a with
  | nil =>
    rw [stmtsJ] at h1; injection h1 with h1; subst h1
    rw [List.nil_append, stmtsJ, h2]; rfl
  | cons x r ih =>
    rw [stmtsJ] at h1
    rw [List.cons_append, stmtsJ]
    cases hx : stmtJ x with
    | none => rw [hx] at h1; cases h1
    | some y =>
      rw [hx] at h1
      cases hr : stmtsJ r with
      | none => rw [hr] at h1; cases h1
      | some b =>
        rw [hr] at h1
        simp only at h1
        injection h1 with h1; subst h1
        simp only
        rw [ih hr]; rfl
theorem stmts_no (l r : List JsonD) (j : JsonD) (h : stmtJ j = none) : stmtsJ (l ++ j :: r) = none := by
  induction l with
  | nil => rw [List.nil_append, stmtsJ, h]
  | cons x l ih =>
    rw [List.cons_append, stmtsJ, ih]
    cases stmtJ x <;> rfl
def polR (s : Txt) : Except (Option (Int × Int)) (List StmtD) :=
  match parseJ s with
  | .error (c, a) => .error (some ((c : Int), (a : Int)))
  | .ok v => match policyJ v with
    | none => .error none
    | some l => .ok l
def OwnTx (base : Nat) (w : World) (v : Value) (ls : List Txt) : Prop := w.ownsRow base 9 1 v ls.length (ls.map strV)
def StK (base : Nat) (w : World) : List StmtD → List Value → Prop
  | [], cells => cells = []
  | s :: r, cells => ∃ va vb vc rest, cells = stmC s va vb vc ++ rest ∧ OwnTx base w va s.who ∧ OwnTx base w vb s.acts ∧ OwnTx base w vc s.ress ∧ StK base w r rest
def StO (base : Nat) (w : World) (v : Value) (l : List StmtD) : Prop := ∃ cells, w.ownsRow base 41 4 v l.length cells ∧ StK base w l cells
def StayT (w w' : World) : Prop := ∀ (b : Nat) (cs : Array Value), w.heap[b]? = some (.cells cs 9 (0, 0)) → w'.heap[b]? = w.heap[b]?
theorem OwnTx.stay {base : Nat} {w w' : World} {v : Value} {ls : List Txt} (h : OwnTx base w v ls) (hs : StayT w w') : OwnTx base w' v ls := by
  refine ownsRow_frame h (fun b hb _ => ?_)
  rcases h.2 with ⟨hv, _⟩ | ⟨g, cap, cur, hv, _, hh, _⟩
  · rw [hv] at hb; cases hb
  · have : g = b := by rw [hv] at hb; simpa [Value.ownBlock] using hb
    subst this
    exact hs _ _ hh
theorem StK.stay {base : Nat} {w w' : World} (hs : StayT w w') : ∀ {l : List StmtD} {cells : List Value}, StK base w l cells → StK base w' l cells
  | [], cells, h => h
  | s :: r, cells, h => by
    obtain ⟨va, vb, vc, rest, e, h1, h2, h3, h4⟩ := h
    exact ⟨va, vb, vc, rest, e, h1.stay hs, h2.stay hs, h3.stay hs, StK.stay hs h4⟩
theorem StK.low {base base' : Nat} {w : World} (hb : base' ≤ base) : ∀ {l : List StmtD} {cells : List Value}, StK base w l cells → StK base' w l cells
  | [], cells, h => h
  | s :: r, cells, h => by
    obtain ⟨va, vb, vc, rest, e, h1, h2, h3, h4⟩ := h
    exact ⟨va, vb, vc, rest, e, ownsRow_low h1 hb, ownsRow_low h2 hb, ownsRow_low h3 hb, StK.low hb h4⟩
theorem StK.snoc {base : Nat} {w : World} {s : StmtD} {va vb vc : Value} (h1 : OwnTx base w va s.who) (h2 : OwnTx base w vb s.acts) (h3 : OwnTx base w vc s.ress) : ∀ {l : List StmtD} {cells : List Value}, StK base w l cells → StK base w (l ++ [s]) (cells ++ stmC s va vb vc)
  | [], cells, h => by
    have h : cells = [] := h
    subst h
    exact ⟨va, vb, vc, [], by simp, h1, h2, h3, rfl⟩
  | x :: r, cells, h => by
    obtain ⟨ua, ub, uc, rest, e, g1, g2, g3, g4⟩ := h
    exact ⟨ua, ub, uc, rest ++ stmC s va vb vc, by rw [e, List.append_assoc], g1, g2, g3, StK.snoc h1 h2 h3 g4⟩
theorem StayT.q {w w' : World} (hq : Q w w') : StayT w w' := fun b cs h => by rw [hq.block h, h]
theorem StO.q {base : Nat} {w w' : World} {v : Value} {l : List StmtD} (h : StO base w v l) (hq : Q w w') : StO base w' v l := by
  obtain ⟨cells, h1, h2⟩ := h
  exact ⟨cells, ownsRow_frame h1 (fun b _ hb => Below.block hq b hb), h2.stay (StayT.q hq)⟩
theorem StO.low {base base' : Nat} {w : World} {v : Value} {l : List StmtD} (h : StO base w v l) (hb : base' ≤ base) : StO base' w v l := by
  obtain ⟨cells, h1, h2⟩ := h
  exact ⟨cells, ownsRow_low h1 hb, h2.low hb⟩
theorem StO.nil (base : Nat) (w : World) : StO base w (.slice none 0 0) [] := ⟨[], World.ownsRow_nil _ _ _ _, rfl⟩
theorem stay_grown {base : Nat} {w w' : World} {v : Value} {n : Nat} {cells : List Value} (h : w.ownsRow base 41 4 v n cells) (hg : w.grownBy w' v.ownBlock) : StayT w w' := fun b cs hb => by
  refine hg.block b (lt_of_heap hb) (fun e => ?_)
  rcases h.2 with ⟨hv, _⟩ | ⟨g, cap, cur, hv, _, hh, _⟩
  · rw [hv] at e; cases e
  · have : b = g := by rw [hv] at e; simpa [Value.ownBlock] using e
    subst this
    rw [hb] at hh; injection hh with hh; injection hh with _ hh _; cases hh
theorem StO.push {base : Nat} {w w' : World} {v v' : Value} {l : List StmtD} {cells : List Value} {s : StmtD} {va vb vc : Value} (h1 : w.ownsRow base 41 4 v l.length cells) (h2 : StK base w l cells) (hg : w.grownBy w' v.ownBlock) (ho : w'.ownsRow base 41 4 v' (l.length + 1) (cells ++ stmC s va vb vc))
    (a1 : OwnTx base w va s.who) (a2 : OwnTx base w vb s.acts) (a3 : OwnTx base w vc s.ress) : StO base w' v' (l ++ [s]) := by
  have hs := stay_grown h1 hg
  exact ⟨cells ++ stmC s va vb vc, by rw [List.length_append]; exact ho, (h2.stay hs).snoc (a1.stay hs) (a2.stay hs) (a3.stay hs)⟩
theorem OwnTx.ns {base : Nat} {w : World} {v : Value} {ls : List Txt} (h : OwnTx base w v ls) : NsV w v ls := by
  obtain ⟨A, c, e1, e2, e3, e4⟩ := row_cells h (by simp)
  refine ⟨A, c, e1, e2, Nat.le_trans e3 (by decide), fun h0 => ?_⟩
  obtain ⟨g, rfl, hc⟩ := e4 h0
  refine ⟨g, 0, rfl, fun i hi => hc i _ ?_⟩
  simp [strV, gL, List.getD, hi]
theorem StK.at {base : Nat} {w : World} : ∀ {l : List StmtD} {cells : List Value}, StK base w l cells → ∀ {i : Nat}, i < l.length → ∃ va vb vc, OwnTx base w va (gSt l i).who ∧ OwnTx base w vb (gSt l i).acts ∧ OwnTx base w vc (gSt l i).ress ∧ ∀ m u, (stmC (gSt l i) va vb vc)[m]? = some u → cells[i * 4 + m]? = some u
  | [], cells, h, i, hi => absurd hi (by simp)
  | s :: r, cells, h, i, hi => by
    obtain ⟨va, vb, vc, rest, e, h1, h2, h3, h4⟩ := h
    cases i with
    | zero =>
      refine ⟨va, vb, vc, h1, h2, h3, fun m u hu => ?_⟩
      have hu : (stmC s va vb vc)[m]? = some u := hu
      have hm := (List.getElem?_eq_some_iff.1 hu).1
      rw [e, Nat.zero_mul, Nat.zero_add, List.getElem?_append_left hm]; exact hu
    | succ i =>
      obtain ⟨ua, ub, uc, g1, g2, g3, g4⟩ := StK.at h4 (i := i) (by simpa using hi)
      refine ⟨ua, ub, uc, g1, g2, g3, fun m u hu => ?_⟩
      have hl : (stmC s va vb vc).length = 4 := rfl
      rw [e, List.getElem?_append_right (by rw [hl]; omega)]
      have : (i + 1) * 4 + m - (stmC s va vb vc).length = i * 4 + m := by rw [hl]; omega
      rw [this]; exact g4 m u hu
theorem StO.read {base : Nat} {w : World} {v : Value} {l : List StmtD} (h : StO base w v l) : StsV w v l := by
  obtain ⟨cells, h1, h2⟩ := h
  obtain ⟨A, c, e1, e2, e3, e4⟩ := row_cells h1 h1.1
  refine ⟨A, c, e1, e2, Nat.le_trans e3 (by decide), fun i hi => ?_⟩
  obtain ⟨g, rfl, hc⟩ := e4 (by omega)
  obtain ⟨va, vb, vc, g1, g2, g3, g4⟩ := h2.at hi
  refine ⟨g, 0, va, vb, vc, rfl, ⟨g1.ns, g2.ns, g3.ns⟩, hc _ _ (g4 0 _ rfl), ?_, ?_, ?_⟩
  · have := hc _ _ (g4 1 _ rfl); rw [← Nat.add_assoc] at this; exact this
  · have := hc _ _ (g4 2 _ rfl); rw [← Nat.add_assoc] at this; exact this
  · have := hc _ _ (g4 3 _ rfl); rw [← Nat.add_assoc] at this; exact this
end Go.Proofs.YtlhhiiemojhjdaaGreatDoor
set_option linter.unusedVariables false
set_option linter.unusedSimpArgs false
namespace Go.Proofs.YtlhhiiemojhjdaaGreatDoor
open Go Go.RowKit
def ReadP (o : Except (Option (Int × Int)) (List StmtD)) (w : World) (e : Ending) (w' : World) : Prop := Q w w' ∧
  match o with
  | .ok l => ∃ A c, e = .returned (.tuple #[.slice A l.length c, .nilIface]) ∧ StO w.heap.size w' (.slice A l.length c) l
  | .error x => ∃ tx vx, e = .returned (.tuple #[.slice none 0 0, .iface tx vx]) ∧ WrongE w' x (.iface tx vx)
theorem fine_parse {s : Txt} {v : JsonD} (h : parseJ s = .ok v) : FineJ v := by
  have hb := parse_big h
  have hl := parse_len h
  have h' := h
  rw [parse_small hl] at h'
  obtain ⟨h1, h2, h3⟩ := parse_right h' hl
  exact .inr ⟨⟨20, h1⟩, h3, hb⟩
theorem info_stm3 : (Tryz.prog.info? 41).map (fun i => (i.zero, i.size, i.bytes)) = some (some (.agg #[.bool false, .slice none 0 0, .slice none 0 0, .slice none 0 0]), 4, 80) := by kernel_rfl
theorem read_ref {s : Txt} {w w' : World} {o : Except (Option (Int × Int)) (List StmtD)} (hq : Q w w') (h : o = .error none) : ReadP o w (.returned (.tuple #[.slice none 0 0, .iface 34 (.int .i64 58)])) w' := by
  subst h
  exact ⟨hq, _, _, rfl, .inl rfl⟩
theorem ownT_of {base : Nat} {w0 w : World} {A : Option Addr} {n c : Nat} {ls : List Txt} (h : OwnS 9 w0 w (.slice A n c) (ls.map strV)) (hb : base ≤ w0.heap.size) : OwnTx base w (.slice A n c) ls := by
  have h1 := ownsRow_low h hb
  unfold OwnTx
  rw [List.length_map] at h1
  exact h1
def RdSt (W : World) (L : List JsonD) (k : Nat) (v : Value) (wx : World) : Prop := ∃ l, stmtsJ (L.take k) = some l ∧ l.length = k ∧ StO W.heap.size wx v l ∧ Q W wx
theorem StO.form {base : Nat} {w : World} {v : Value} {l : List StmtD} (h : StO base w v l) : ∃ A c, v = .slice A l.length c := by
  obtain ⟨cells, h1, h2⟩ := h
  exact row_form' h1
theorem drop_gK (l : List JsonD) (k : Nat) (h : k < l.length) : l = l.take k ++ gK l k :: l.drop (k + 1) := by
  rw [gK_get l k h, ← List.drop_eq_getElem_cons h, List.take_append_drop]
set_option maxRecDepth 100000 in
set_option maxHeartbeats 8000000 in
theorem read_any (s : Txt) (w : World) (hu : UT w) : Calls Tryz.prog 16 #[.string ⟨s.toArray⟩] w (ReadP (polR s) w) := by
  have HPa := Lib.hid (parse_any s w hu)
  obtain ⟨O, hO⟩ : ∃ O, polR s = O := ⟨_, rfl⟩
  have HO := Lib.hid hO
  rw [hO]
  clear hO
  go_enter Tryz.func16, Tryz.ntmps16
  go_wp2_with fail
  refine HPa.out.mono ?_
  rintro e w1 ⟨hq1, hp⟩
  have HQ1 := Lib.hid hq1
  clear HPa hq1
  cases hr : parseJ s with
  | error ce =>
    obtain ⟨c, a⟩ := ce
    rw [hr] at hp
    obtain ⟨bf, rfl, hf⟩ := hp
    have hc := parse_code hr
    have HX : Hid (O = .error (some ((c : Int), (a : Int)))) := Lib.hid (by rw [← HO.out]; unfold polR; rw [hr])
    have HF : Hid (FaultJ w1 bf c a ∧ c ≠ 58) := Lib.hid ⟨hf, by omega⟩
    clear hf hr hc
    have ez : Value.agg zeroC.toArray = .agg #[.int .i64 0, .string ⟨#[]⟩, .slice none 0 0, .slice none 0 0] := rfl
    rw [ez]
    clear ez
    go_wp2_with fail
    have HP : Hid (ReadP O w (.returned (.tuple #[.slice none 0 0, .iface 32 (.pointer (some ⟨bf, 0, none⟩))])) (w1.alloc (.cells #[.int .i64 0, .string ⟨#[]⟩, .slice none 0 0, .slice none 0 0] 46))) := Lib.hid (by
      rw [HX.out]
      exact ⟨HQ1.out.alloc _, _, _, rfl, by have := HF.out.2; omega, bf, rfl, HF.out.1.q ((Q.refl w1).alloc _)⟩)
    go_ret2
    exact HP.out
  | ok v =>
    rw [hr] at hp
    obtain ⟨vn, vk, rfl, hj⟩ := hp
    have hjv := hj.read
    have hfi := fine_parse hr
    have HX : Hid (O = match policyJ v with | none => .error none | some l => .ok l) := Lib.hid (by rw [← HO.out]; unfold polR; rw [hr]; try rfl)
    obtain ⟨k, t, ns, ks, A1, c1, A2, c2, rfl, rfl, rfl⟩ := hjv.full
    have ez : Value.agg (cellJ (.mk k t ns ks) (.slice A1 ns.length c1) (.slice A2 ks.length c2)).toArray = .agg #[.int .i64 k, .string ⟨t.toArray⟩, .slice A1 ns.length c1, .slice A2 ks.length c2] := rfl
    rw [ez]
    have HJ := Lib.hid hjv
    have HF := Lib.hid hfi
    clear ez hj hjv hfi hr
    go_upto_region 4 with (fail)
    have hr0 := heap_alloc_new w1 (.cells #[.int .i64 k, .string ⟨t.toArray⟩, .slice A1 ns.length c1, .slice A2 ks.length c2] 46)
    obtain ⟨W0, hW0⟩ : ∃ W0, w1.alloc (.cells #[.int .i64 k, .string ⟨t.toArray⟩, .slice A1 ns.length c1, .slice A2 ks.length c2] 46) = W0 := ⟨_, rfl⟩
    have hq0 : Q w1 W0 := by rw [← hW0]; exact (Q.refl w1).alloc _
    obtain ⟨N, hN⟩ : ∃ N, w1.heap.size = N := ⟨_, rfl⟩
    rw [hW0, hN] at hr0
    rw [hW0, hN]
    clear hW0 hN
    have y0 : W0.cell? ⟨N, 0, none⟩ = some (.int .i64 k) := by rw [cell_of_row _ _ _ _ _ _ hr0]; rfl
    have y1 : W0.cell? ⟨N, 1, none⟩ = some (.string ⟨t.toArray⟩) := by rw [cell_of_row _ _ _ _ _ _ hr0]; rfl
    have y2 : W0.cell? ⟨N, 2, none⟩ = some (.slice A1 ns.length c1) := by rw [cell_of_row _ _ _ _ _ _ hr0]; rfl
    have y3 : W0.cell? ⟨N, 3, none⟩ = some (.slice A2 ks.length c2) := by rw [cell_of_row _ _ _ _ _ _ hr0]; rfl
    obtain ⟨W1, hW1⟩ : ∃ W1, W0.alloc (.cells #[.string ⟨#[86, 101, 114, 115, 105, 111, 110]⟩, .string ⟨#[73, 100]⟩, .string ⟨#[83, 116, 97, 116, 101, 109, 101, 110, 116]⟩] 9) = W1 := ⟨_, rfl⟩
    obtain ⟨M1, hM1⟩ : ∃ M1, W0.heap.size = M1 := ⟨_, rfl⟩
    have hns : NsV W1 (.slice (some ⟨M1, 0, none⟩) 3 3) threeN := by rw [← hW1, ← hM1]; exact ns_new W0 threeN (by decide)
    have hq1 : Q W0 W1 := by rw [← hW1]; exact (Q.refl W0).alloc _
    have HQ2 := Lib.hid (HQ1.out.trans (hq0.trans hq1))
    have HOb : Hid (Calls Tryz.prog 31 #[.agg #[.int .i64 k, .string ⟨t.toArray⟩, .slice A1 ns.length c1, .slice A2 ks.length c2], .slice (some ⟨M1, 0, none⟩) 3 3] W1 (ObjP (.mk k t ns ks) threeN W1)) := Lib.hid (object_any k t ns ks A1 A2 c1 c2 threeN (some ⟨M1, 0, none⟩) 3 W1 (HJ.out.q (hq0.trans hq1)) hns HF.out.d.seven HF.out.d.names HF.out.d.short)
    clear hq0 hr0 hns hq1
    go_wp2_with fail
    refine HOb.out.mono ?_
    rintro e w2 ⟨hq2, hc⟩
    have HQ3 := Lib.hid (HQ2.out.trans hq2)
    clear HOb y0 y1 y2 y3 hq2 hW1 hM1
    rcases hc with ⟨ho, b, rfl, hm⟩ | ⟨ho, rfl⟩
    · have HM : Hid (MapB w2 b (ns.zip ks)) := Lib.hid hm
      have HE : Hid (policyJ (.mk k t ns ks) = _) := Lib.hid (policy_eq k t ns ks ho)
      have HLk : Hid (∀ x, FineJ (orJ ((ns.zip ks).lookup x))) := Lib.hid (fun x => HF.out.look x)
      obtain ⟨PJ, hPJ⟩ : ∃ PJ, policyJ (.mk k t ns ks) = PJ := ⟨_, rfl⟩
      obtain ⟨Z, hZ⟩ : ∃ Z, ns.zip ks = Z := ⟨_, rfl⟩
      rw [hPJ] at HX
      rw [hPJ, hZ] at HE
      rw [hZ] at HM HLk
      clear hm ho hZ HF HJ HO hPJ
      obtain ⟨R1, hR1⟩ : ∃ R, isTextJ (Z.lookup nVersion) false [nDate] = R := ⟨_, rfl⟩
      obtain ⟨R2, hR2⟩ : ∃ R, isTextJ (Z.lookup nId) false [] = R := ⟨_, rfl⟩
      rw [hR1, hR2] at HE
      obtain ⟨W4, hW4⟩ : ∃ W4, w2.alloc (.cells #[.string ⟨#[50, 48, 49, 50, 45, 49, 48, 45, 49, 55]⟩] 9) = W4 := ⟨_, rfl⟩
      obtain ⟨M4, hM4⟩ : ∃ M4, w2.heap.size = M4 := ⟨_, rfl⟩
      have hns : NsV W4 (.slice (some ⟨M4, 0, none⟩) 1 1) [nDate] := by rw [← hW4, ← hM4]; exact ns_new w2 [nDate] (by decide)
      have hq4 : Q w2 W4 := by rw [← hW4]; exact (Q.refl w2).alloc _
      have HI1 : Hid (Calls Tryz.prog 32 #[.map (some b), .string ⟨#[86, 101, 114, 115, 105, 111, 110]⟩, .bool false, .slice (some ⟨M4, 0, none⟩) 1 1] W4 fun e w' => e = .returned (.bool R1) ∧ Q W4 w') := Lib.hid (by
        have := isText_any b Z nVersion false [nDate] (some ⟨M4, 0, none⟩) 1 W4 (HM.out.q hq4) (bndS _ (by decide)) hns
        rw [hR1] at this; exact this)
      have HQ4 := Lib.hid (HQ3.out.trans hq4)
      have HM4 := Lib.hid (HM.out.q hq4)
      have HR2 := Lib.hid hR2
      clear hns hq4 HM hR1 hR2
      go_wp2_with fail
      refine HI1.out.mono ?_
      rintro e w5 ⟨rfl, hq5⟩
      have HQ5 := Lib.hid (HQ4.out.trans hq5)
      have HM5 := Lib.hid (HM4.out.q hq5)
      clear hq5 HI1 HM4 hW4 hM4
      cases R1 with
      | false =>
        have HX2 : Hid (O = .error none) := Lib.hid (by rw [HX.out, HE.out]; rfl)
        go_wp2_with fail
        refine (errNone_any _).mono ?_
        rintro e w6 ⟨rfl, hq6⟩
        have HP := Lib.hid (read_ref (s := s) (HQ5.out.trans hq6) HX2.out)
        clear hq6
        go_wp2_with fail
        go_ret2
        exact HP.out
      | true =>
        have HI2 : Hid (Calls Tryz.prog 32 #[.map (some b), .string ⟨#[73, 100]⟩, .bool false, .slice none 0 0] w5 fun e w' => e = .returned (.bool R2) ∧ Q w5 w') := Lib.hid (by
          have := isText_any b Z nId false [] none 0 w5 HM5.out (bndS _ (by decide)) (nilNs w5)
          rw [HR2.out] at this; exact this)
        go_wp2_with fail
        refine HI2.out.mono ?_
        rintro e w6 ⟨rfl, hq6⟩
        have HQ6 := Lib.hid (HQ5.out.trans hq6)
        have HM6 := Lib.hid (HM5.out.q hq6)
        clear hq6 HI2 HM5 HR2
        cases R2 with
        | false =>
          have HX2 : Hid (O = .error none) := Lib.hid (by rw [HX.out, HE.out]; rfl)
          go_wp2_with fail
          refine (errNone_any _).mono ?_
          rintro e w7 ⟨rfl, hq7⟩
          have HP := Lib.hid (read_ref (s := s) (HQ6.out.trans hq7) HX2.out)
          clear hq7
          go_wp2_with fail
          go_ret2
          exact HP.out
        | true =>
          obtain ⟨B1, n1, d1, B2, n2, d2, hjv, -, r2⟩ := HM6.out.look nStatement (bndS _ (by decide))
          have hfi := HLk.out nStatement
          obtain ⟨j2, hj2⟩ : ∃ j2, orJ (Z.lookup nStatement) = j2 := ⟨_, rfl⟩
          replace hjv : JV w6 (orJ (Z.lookup nStatement)) (.slice B1 n1 d1) (.slice B2 n2 d2) := hjv
          replace r2 : (Instr.lookup 71 (.map (some b)) (.string ⟨#[83, 116, 97, 116, 101, 109, 101, 110, 116]⟩) false).run Tryz.prog w6 = .ok (.agg #[.int .i64 (orJ (Z.lookup nStatement)).kind, .string ⟨(orJ (Z.lookup nStatement)).text.toArray⟩, .slice B1 n1 d1, .slice B2 n2 d2]) w6 := r2
          rw [hj2] at hjv r2 hfi HE
          obtain ⟨k2, t2, ns2, ks2, A12, c12, A22, c22, rfl, e1, e2⟩ := hjv.full
          cases e1
          cases e2
          simp only [JsonD.kind, JsonD.text] at r2
          have HJ2 := Lib.hid hjv
          have HF2 := Lib.hid hfi
          clear hjv hfi hj2 HM6
          go_upto_region 11 with (fail)
          have hr7 := heap_alloc_new w6 (.cells #[.int .i64 k2, .string ⟨t2.toArray⟩, .slice B1 ns2.length d1, .slice B2 ks2.length d2] 46)
          obtain ⟨W7, hW7⟩ : ∃ W7, w6.alloc (.cells #[.int .i64 k2, .string ⟨t2.toArray⟩, .slice B1 ns2.length d1, .slice B2 ks2.length d2] 46) = W7 := ⟨_, rfl⟩
          obtain ⟨M7, hM7⟩ : ∃ M7, w6.heap.size = M7 := ⟨_, rfl⟩
          have hq7 : Q w6 W7 := by rw [← hW7]; exact (Q.refl w6).alloc _
          rw [hW7, hM7] at hr7
          have hr8 := heap_alloc_new W7 (.cells #[.int .i64 k2, .string ⟨t2.toArray⟩, .slice B1 ns2.length d1, .slice B2 ks2.length d2] 46)
          have hs7 : W7.heap.size = w6.heap.size + 1 := by rw [← hW7]; simp
          obtain ⟨W8, hW8⟩ : ∃ W8, W7.alloc (.cells #[.int .i64 k2, .string ⟨t2.toArray⟩, .slice B1 ns2.length d1, .slice B2 ks2.length d2] 46) = W8 := ⟨_, rfl⟩
          obtain ⟨M8, hM8⟩ : ∃ M8, w6.heap.size + 1 = M8 := ⟨_, rfl⟩
          have hq8 : Q W7 W8 := by rw [← hW8]; exact (Q.refl W7).alloc _
          rw [hW8, hs7, hM8] at hr8
          have hr78 := hq8.block hr7
          rw [hW7, hW8]
          first | rw [hs7, hM8] | rw [hM8] | skip
          rw [hM7]
          have x0 : W8.cell? ⟨M7, 0, none⟩ = some (.int .i64 k2) := by rw [cell_of_row _ _ _ _ _ _ hr78]; rfl
          have x3 : W8.cell? ⟨M7, 3, none⟩ = some (.slice B2 ks2.length d2) := by rw [cell_of_row _ _ _ _ _ _ hr78]; rfl
          have HQ8 := Lib.hid (HQ6.out.trans (hq7.trans hq8))
          have HQ68 := Lib.hid (hq7.trans hq8)
          have HR8 := Lib.hid hr8
          clear hW7 hM7 hq7 hr7 hs7 hW8 hM8 hq8 hr8 hr78 r2
          by_cases h6 : k2 = 6
          case' pos =>
            subst h6
            go_upto_region 13 with (fail)
            obtain ⟨L, hL⟩ : ∃ L, ks2 = L := ⟨_, rfl⟩
            obtain ⟨A, hA⟩ : ∃ A : Option Addr, B2 = A := ⟨_, rfl⟩
            obtain ⟨m, hm⟩ : ∃ m : Nat, ks2.length = m := ⟨_, rfl⟩
            obtain ⟨c, hc⟩ : ∃ c : Nat, d2 = c := ⟨_, rfl⟩
            have HKd : Hid (KidsV W8 A L) := Lib.hid (by rw [← hL, ← hA]; exact HJ2.out.kids.q HQ68.out)
            have HFi : Hid (∀ i, i < L.length → FineJ (gK L i)) := Lib.hid (by rw [← hL]; exact HF2.out.d.kid)
            have HLm : Hid (L.length = m) := Lib.hid (by rw [← hL, hm])
            have HPJ : Hid (PJ = if 1 ≤ m ∧ m ≤ 10 then stmtsJ L else none) := Lib.hid (by rw [HE.out, if_pos (by rfl), ← hm, ← hL]; rfl)
            rw [hm, hA, hc]
            clear hL hA hm hc x0 x3
          case' neg =>
            have g6 : (k2 == 6) = false := by simpa using h6
            have HN6 := Lib.hid h6
            clear h6
            go_upto_region 13 with (fail)
            obtain ⟨L, hL⟩ : ∃ L, L = [JsonD.mk k2 t2 ns2 ks2] := ⟨_, rfl⟩
            obtain ⟨A, hA⟩ : ∃ A : Option Addr, A = some ⟨M8, 0, none⟩ := ⟨_, rfl⟩
            obtain ⟨m, hm⟩ : ∃ m : Nat, m = 1 := ⟨_, rfl⟩
            obtain ⟨c, hc⟩ : ∃ c : Nat, c = 1 := ⟨_, rfl⟩
            have HKd : Hid (KidsV W8 A L) := Lib.hid (by rw [hA, hL]; exact kids_one HJ2.out HQ68.out HR8.out)
            have HFi : Hid (∀ i, i < L.length → FineJ (gK L i)) := Lib.hid (by
              rw [hL]; intro i hi
              have hi0 : i = 0 := by simpa using hi
              subst hi0; exact HF2.out)
            have HLm : Hid (L.length = m) := Lib.hid (by rw [hL, hm]; rfl)
            have HPJ : Hid (PJ = if 1 ≤ m ∧ m ≤ 10 then stmtsJ L else none) := Lib.hid (by
              have e : allL (JsonD.mk k2 t2 ns2 ks2) = L := by rw [hL]; unfold allL; exact if_neg HN6.out
              rw [HE.out, if_pos (by rfl), e, HLm.out])
            have e1 : Value.slice (some ⟨M8, 0, none⟩) 1 1 = .slice A m c := by rw [hA, hm, hc]
            rw [e1]
            clear hL hA hm hc e1 x0 x3 g6
          all_goals
            clear HE HJ2 HF2 HR8 HQ68
            by_cases hm0 : m = 0
            · subst hm0
              have HX2 : Hid (O = .error none) := Lib.hid (by rw [HX.out, HPJ.out, if_neg (by omega)])
              go_wp2_with fail
              refine (errNone_any _).mono ?_
              rintro e w9 ⟨rfl, hq9⟩
              have HP := Lib.hid (read_ref (s := s) (HQ8.out.trans hq9) HX2.out)
              clear hq9
              go_wp2_with fail
              go_ret2
              exact HP.out
            by_cases hm10 : 10 < m
            · have HX2 : Hid (O = .error none) := Lib.hid (by rw [HX.out, HPJ.out, if_neg (by omega)])
              have g1 : decide ((m : Int) < 1) = false := by simp; omega
              have g2 : decide ((10 : Int) < (m : Int)) = true := by simp; omega
              clear hm0 hm10
              go_wp2_with fail
              refine (errNone_any _).mono ?_
              rintro e w9 ⟨rfl, hq9⟩
              have HP := Lib.hid (read_ref (s := s) (HQ8.out.trans hq9) HX2.out)
              clear hq9
              go_wp2_with fail
              go_ret2
              exact HP.out
            have g1 : decide ((m : Int) < 1) = false := by simp; omega
            have g2 : decide ((10 : Int) < (m : Int)) = false := by simp; omega
            have HPJ2 : Hid (PJ = stmtsJ L) := Lib.hid (by rw [HPJ.out, if_pos (by omega)])
            have hml : m ≤ 10 := by omega
            clear HPJ hm10
            go_upto_region 15 with (fail)
            clear g1 g2
            go_wp2_with fail
            go_loopw [9, 61] (fun o i wx => ∃ (k : Nat) (A' : Option Addr) (c' : Nat), k ≤ m ∧ i = .int .i64 (k : Int) ∧ o = .slice A' k c' ∧ Hid (RdSt W8 L k (.slice A' k c') wx)) (fun _ i _ => m - (intOf i).toNat)
            case atStart => exact ⟨0, none, 0, by omega, rfl, rfl, Lib.hid ⟨[], by rw [List.take_zero]; rfl, rfl, StO.nil _ _, Q.refl _⟩⟩
            case round =>
              obtain ⟨k, A', c', hk, rfl, rfl, HI⟩ := hrel
              rename World => wa
              have hqa : Q W8 wa := by obtain ⟨l, _, _, _, h⟩ := HI.out; exact h
              by_cases hlt : k < m
              · have hd : decide (k < m) = true := by simpa using hlt
                obtain ⟨g, off, E1, m1, e1, E2, m2, e2, rfl, z0, z1, z2, z3, zv⟩ := HKd.out k (by rw [HLm.out]; exact hlt)
                replace z0 := hqa.cell z0
                replace z1 := hqa.cell z1
                replace z2 := hqa.cell z2
                replace z3 := hqa.cell z3
                replace zv := zv.q hqa
                have hfi := HFi.out k (by rw [HLm.out]; exact hlt)
                obtain ⟨j3, hj3⟩ : ∃ j3, gK L k = j3 := ⟨_, rfl⟩
                rw [hj3] at z0 z1 zv hfi
                have HJ3 := Lib.hid hj3
                obtain ⟨k3, t3, ns3, ks3, A13, c13, A23, c23, rfl, e3, e4⟩ := zv.full
                cases e3
                cases e4
                simp only [JsonD.kind, JsonD.text] at z0 z1
                have HZv := Lib.hid zv
                have HFi3 := Lib.hid hfi
                have HQA := Lib.hid hqa
                clear hj3 zv hfi hqa
                go_upto_region 19 with (fail)
                have hr9 := heap_alloc_new wa (.cells #[.int .i64 k3, .string ⟨t3.toArray⟩, .slice E1 ns3.length e1, .slice E2 ks3.length e2] 46)
                obtain ⟨W9, hW9⟩ : ∃ W9, wa.alloc (.cells #[.int .i64 k3, .string ⟨t3.toArray⟩, .slice E1 ns3.length e1, .slice E2 ks3.length e2] 46) = W9 := ⟨_, rfl⟩
                obtain ⟨M9, hM9⟩ : ∃ M9, wa.heap.size = M9 := ⟨_, rfl⟩
                have hq9 : Q wa W9 := by rw [← hW9]; exact (Q.refl wa).alloc _
                rw [hW9, hM9] at hr9
                rw [hW9, hM9]
                have x0 : W9.cell? ⟨M9, 0, none⟩ = some (.int .i64 k3) := by rw [cell_of_row _ _ _ _ _ _ hr9]; rfl
                have x1 : W9.cell? ⟨M9, 1, none⟩ = some (.string ⟨t3.toArray⟩) := by rw [cell_of_row _ _ _ _ _ _ hr9]; rfl
                have x2 : W9.cell? ⟨M9, 2, none⟩ = some (.slice E1 ns3.length e1) := by rw [cell_of_row _ _ _ _ _ _ hr9]; rfl
                have x3 : W9.cell? ⟨M9, 3, none⟩ = some (.slice E2 ks3.length e2) := by rw [cell_of_row _ _ _ _ _ _ hr9]; rfl
                have HSt := Lib.hid (statement_any k3 t3 ns3 ks3 E1 E2 e1 e2 W9 (HZv.out.q hq9) HFi3.out)
                have HQ9 := Lib.hid hq9
                clear hW9 hM9 hq9 hr9 z0 z1 z2 z3
                go_wp2_with fail
                refine HSt.out.mono ?_
                rintro e w10 ⟨hq10, al, X1, X2, X3, p1, p2, p3, q1, q2, q3, ev, rfl, hc⟩
                have HQ10 := Lib.hid (HQ9.out.trans hq10)
                clear HSt x0 x1 x2 x3 hq10
                cases hs : stmtJ (.mk k3 t3 ns3 ks3) with
                | none =>
                  rw [hs] at hc
                  obtain ⟨tx, vx, rfl, hwr⟩ := hc
                  have HX2 : Hid (O = .error none) := Lib.hid (by
                    rw [HX.out, HPJ2.out, drop_gK L k (by rw [HLm.out]; exact hlt), HJ3.out, stmts_no _ _ _ hs])
                  have HP : Hid (ReadP O w (.returned (.tuple #[.slice none 0 0, .iface tx vx])) (w10.alloc (.cells #[.bool al, .slice X1 p1 q1, .slice X2 p2 q2, .slice X3 p3 q3] 41))) := Lib.hid (by
                    rw [HX2.out]
                    exact ⟨(HQ8.out.trans (HQA.out.trans HQ10.out)).alloc _, tx, vx, rfl, hwr.q ((Q.refl w10).alloc _)⟩)
                  clear hwr hs
                  go_wp2_with fail
                  go_ret2
                  exact HP.out
                | some sd =>
                  rw [hs] at hc
                  obtain ⟨rfl, hal, -, -, -, ho1, ho2, ho3⟩ := hc
                  have HAl := Lib.hid hal
                  have HS := Lib.hid hs
                  clear hal hs
                  go_upto_region 22 with (fail)
                  have hr11 := heap_alloc_new w10 (.cells #[.bool al, .slice X1 p1 q1, .slice X2 p2 q2, .slice X3 p3 q3] 41)
                  obtain ⟨W11, hW11⟩ : ∃ W11, w10.alloc (.cells #[.bool al, .slice X1 p1 q1, .slice X2 p2 q2, .slice X3 p3 q3] 41) = W11 := ⟨_, rfl⟩
                  obtain ⟨M11, hM11⟩ : ∃ M11, w10.heap.size = M11 := ⟨_, rfl⟩
                  have hq11 : Q w10 W11 := by rw [← hW11]; exact (Q.refl w10).alloc _
                  rw [hW11, hM11] at hr11
                  rw [hW11, hM11]
                  have x0 : W11.cell? ⟨M11, 0, none⟩ = some (.bool al) := by rw [cell_of_row _ _ _ _ _ _ hr11]; rfl
                  have x1 : W11.cell? ⟨M11, 1, none⟩ = some (.slice X1 p1 q1) := by rw [cell_of_row _ _ _ _ _ _ hr11]; rfl
                  have x2 : W11.cell? ⟨M11, 2, none⟩ = some (.slice X2 p2 q2) := by rw [cell_of_row _ _ _ _ _ _ hr11]; rfl
                  have x3 : W11.cell? ⟨M11, 3, none⟩ = some (.slice X3 p3 q3) := by rw [cell_of_row _ _ _ _ _ _ hr11]; rfl
                  have hr12 := heap_alloc_new W11 (.cells #[.bool al, .slice X1 p1 q1, .slice X2 p2 q2, .slice X3 p3 q3] 41)
                  have hq12 : Q W11 (W11.alloc (.cells #[.bool al, .slice X1 p1 q1, .slice X2 p2 q2, .slice X3 p3 q3] 41)) := (Q.refl W11).alloc _
                  have hqw : Q w10 (W11.alloc (.cells #[.bool al, .slice X1 p1 q1, .slice X2 p2 q2, .slice X3 p3 q3] 41)) := hq11.trans hq12
                  have hqb : Q W8 (W11.alloc (.cells #[.bool al, .slice X1 p1 q1, .slice X2 p2 q2, .slice X3 p3 q3] 41)) := HQA.out.trans (HQ10.out.trans hqw)
                  obtain ⟨l, hl1, hl2, hl3, hl4⟩ := HI.out
                  obtain ⟨cells, hrow, hstk⟩ := hl3.q (HQ10.out.trans hqw)
                  rw [hl2] at hrow
                  have hlow : W8.heap.size ≤ W9.heap.size := (HQA.out.trans HQ9.out).size
                  have HO1 : Hid (OwnTx W8.heap.size (W11.alloc (.cells #[.bool al, .slice X1 p1 q1, .slice X2 p2 q2, .slice X3 p3 q3] 41)) (.slice X1 p1 q1) sd.who ∧ OwnTx W8.heap.size (W11.alloc (.cells #[.bool al, .slice X1 p1 q1, .slice X2 p2 q2, .slice X3 p3 q3] 41)) (.slice X2 p2 q2) sd.acts ∧ OwnTx W8.heap.size (W11.alloc (.cells #[.bool al, .slice X1 p1 q1, .slice X2 p2 q2, .slice X3 p3 q3] 41)) (.slice X3 p3 q3) sd.ress) := Lib.hid
                    ⟨ownT_of (ho1.q hqw) hlow, ownT_of (ho2.q hqw) hlow, ownT_of (ho3.q hqw) hlow⟩
                  have HNw : Hid (∀ (j : Nat) u, [Value.bool al, .slice X1 p1 q1, .slice X2 p2 q2, .slice X3 p3 q3][j]? = some u → (W11.alloc (.cells #[.bool al, .slice X1 p1 q1, .slice X2 p2 q2, .slice X3 p3 q3] 41)).cell? ((⟨W11.heap.size, 0, none⟩ : Addr).add j) = some u) := Lib.hid (fun j u hj => by
                    have hj4 := (List.getElem?_eq_some_iff.1 hj).1
                    rw [add_off, cell_of_row _ _ _ _ _ _ hr12, Nat.zero_add]
                    rw [← Array.getElem?_toList]; exact hj)
                  have HRow := Lib.hid hrow
                  have HStk := Lib.hid hstk
                  have HL1 := Lib.hid hl1
                  have HL2 := Lib.hid hl2
                  have HQb := Lib.hid hqb
                  have HSz := Lib.hid hqb.size
                  clear hW11 hM11 hq11 hr11 hr12 hq12 hqw hqb hl1 hl2 hl3 hl4 hrow hstk hlow ho1 ho2 ho3 HI
                  obtain ⟨ti, hi, hz0, hz1, hz2⟩ := info_parts info_stm3
                  go_wp2_with (at_builtin; refine wpList_append_own (w := W11.alloc (.cells #[.bool al, .slice X1 p1 q1, .slice X2 p2 q2, .slice X3 p3 q3] 41)) rfl (.tmp 73) (.tmp 75) 23 rfl W8.heap.size 41 ti _ 4 80 Tryz.underlying23 hi hz0 hz1 hz2 rfl (by decide) (.slice A' k c') k cells rfl HRow.out ⟨W11.heap.size, 0, none⟩ 1 1 [.bool al, .slice X1 p1 q1, .slice X2 p2 q2, .slice X3 p3 q3] rfl rfl HNw.out (by simp [Value.oneCell']) (by unfold maxLen; omega) (by omega) HSz.out ?_)
                  intro v' w13 hown13 hgrow13 _
                  have hst : StO W8.heap.size w13 v' (l ++ [sd]) := by
                    have e : stmC sd (.slice X1 p1 q1) (.slice X2 p2 q2) (.slice X3 p3 q3) = [.bool al, .slice X1 p1 q1, .slice X2 p2 q2, .slice X3 p3 q3] := by rw [HAl.out]; rfl
                    exact StO.push (by rw [HL2.out]; exact HRow.out) HStk.out hgrow13 (by rw [HL2.out, e]; exact hown13) HO1.out.1 HO1.out.2.1 HO1.out.2.2
                  have hqn : Q W8 w13 := HQb.out.grown hgrow13 HSz.out (fun k hk => (ownsRow_base HRow.out hk).1)
                  obtain ⟨A'', c'', hv'⟩ := row_form' hown13
                  subst hv'
                  have HN : Hid (RdSt W8 L (k + 1) (.slice A'' (k + 1) c'') w13) := Lib.hid ⟨l ++ [sd], by rw [gK_take L k (by rw [HLm.out]; exact hlt), HJ3.out]; exact stmts_snoc _ _ HL1.out HS.out, by rw [List.length_append, HL2.out]; rfl, hst, hqn⟩
                  clear hst hqn hown13 hgrow13 x0 x1 x2 x3
                  go_wp2_with fail
                  go_roundw
                  case rel => exact ⟨k + 1, A'', c'', by omega, by go_num, rfl, HN⟩
                  case measure => simp [intOf]; omega
              · have hd : decide (k < m) = false := by simpa using hlt
                have HP : Hid (ReadP O w (.returned (.tuple #[.slice A' k c', .nilIface])) wa) := Lib.hid (by
                  obtain ⟨l, h1, h2, h3, h4⟩ := HI.out
                  rw [List.take_of_length_le (by rw [HLm.out]; omega)] at h1
                  rw [HX.out, HPJ2.out, h1]
                  exact ⟨HQ8.out.trans h4, A', c', by rw [h2], by rw [h2]; exact h3.low HQ8.out.size⟩)
                clear HI hqa
                go_wp2_with fail
                go_ret2
                exact HP.out
    · have HX2 : Hid (O = .error none) := Lib.hid (by rw [HX.out, policy_no k t ns ks ho])
      have HP := Lib.hid (read_ref (s := s) HQ3.out HX2.out)
      clear ho
      go_wp2_with fail
      go_ret2
      exact HP.out
end Go.Proofs.YtlhhiiemojhjdaaGreatDoor
set_option linter.unusedVariables false
set_option linter.unusedSimpArgs false
namespace Go.Proofs.YtlhhiiemojhjdaaGreatDoor
open Go Go.RowKit
def PolP (o : Except (Option (Int × Int)) (List StmtD)) (w : World) (e : Ending) (w' : World) : Prop := Q w w' ∧
  match o with
  | .ok l => ∃ A c, e = .returned (.tuple #[.slice A l.length c, .nilIface]) ∧ StO w.heap.size w' (.slice A l.length c) l
  | .error x => ∃ b, e = .returned (.tuple #[.slice none 0 0, .iface 32 (.pointer (some ⟨b, 0, none⟩))]) ∧ RefE w' x (.iface 32 (.pointer (some ⟨b, 0, none⟩)))
set_option maxRecDepth 100000 in
theorem policy_any (s : Txt) (w : World) (hu : UT w) : Calls Tryz.prog 6 #[.string ⟨s.toArray⟩] w (PolP (polR s) w) := by
  have HPa := Lib.hid (read_any s w hu)
  obtain ⟨O, hO⟩ : ∃ O, polR s = O := ⟨_, rfl⟩
  rw [hO] at HPa ⊢
  clear hO hu
  go_enter Tryz.func6, Tryz.ntmps6
  go_wp2_with fail
  refine HPa.out.mono ?_
  rintro e w1 ⟨hq1, hp⟩
  have HQ1 := Lib.hid hq1
  clear HPa hq1
  cases O with
  | error x =>
    obtain ⟨tx, vx, rfl, hw⟩ := hp
    have HRf := Lib.hid (refused_any x (.iface tx vx) w1 hw)
    clear hw
    go_wp2_with fail
    refine HRf.out.mono ?_
    rintro e w2 ⟨⟨u, rfl, hr⟩, hq2⟩
    obtain ⟨b, rfl, hr2⟩ := hr
    have HP : Hid (PolP (.error x) w (.returned (.tuple #[.slice none 0 0, .iface 32 (.pointer (some ⟨b, 0, none⟩))])) w2) := Lib.hid ⟨HQ1.out.trans hq2, b, rfl, b, rfl, hr2⟩
    clear hr2 hq2
    go_wp2_with fail
    go_ret2
    exact HP.out
  | ok l =>
    obtain ⟨A, c, rfl, hs⟩ := hp
    have HP : Hid (PolP (.ok l) w (.returned (.tuple #[.slice A l.length c, .nilIface])) w1) := Lib.hid ⟨HQ1.out, A, c, rfl, hs⟩
    clear hs
    go_wp2_with fail
    go_ret2
    exact HP.out
end Go.Proofs.YtlhhiiemojhjdaaGreatDoor
set_option linter.unusedVariables false
set_option linter.unusedSimpArgs false
namespace Go.Proofs.YtlhhiiemojhjdaaGreatDoor
open Go Go.RowKit
def exP : Txt := [123, 34, 83, 116, 97, 116, 101, 109, 101, 110, 116, 34, 58, 123, 34, 69, 102, 102, 101, 99, 116, 34, 58, 34, 68, 101, 110, 121, 34, 44, 34, 80, 114, 105, 110, 99, 105, 112, 97, 108, 34, 58, 123, 34, 65, 87, 83, 34, 58, 91, 34, 120, 34, 44, 34, 121, 34, 93, 125, 44, 34, 65, 99, 116, 105, 111, 110, 34, 58, 34, 115, 51, 58, 42, 34, 44, 34, 82, 101, 115, 111, 117, 114, 99, 101, 34, 58, 34, 42, 34, 125, 125]
def exL : List StmtD := [⟨false, [[120], [121]], [[115, 51, 58, 42]], [[42]]⟩]
theorem exP_pol : polR exP = .ok exL := by kernel_rfl
theorem exB_pol : polR [91, 93] = .error none := by kernel_rfl
def exG : Txt := [115, 51, 58, 71, 101, 116, 79, 98, 106, 101, 99, 116]
theorem exL_x : decideL exL [120] exG [114] = 2 := by kernel_rfl
theorem exL_z : decideL exL [122] exG [114] = 0 := by kernel_rfl
theorem exM1 : matL [97, 42, 99, 63] [97, 98, 98, 99, 100] = true := by kernel_rfl
theorem exM2 : matL [63] [] = false := by kernel_rfl
theorem exL_sh : ∀ i, i < exL.length → ShS (gSt exL i) := by
  intro i hi
  have : i = 0 := by have : exL.length = 1 := rfl; omega
  subst this
  refine ⟨fun i hi => ?_, fun i hi => ?_⟩
  · have h : i = 0 := by have : (gSt exL 0).acts.length = 1 := rfl; omega
    subst h; decide
  · have h : i = 0 := by have : (gSt exL 0).ress.length = 1 := rfl; omega
    subst h; decide
set_option maxRecDepth 100000 in
theorem examples18 (w : World) (hu : UT w) : Calls Tryz.prog 4 #[] w fun e w' => e = .returned (.bool true) ∧ Q w w' := by
  have HU := Lib.hid hu
  have HPa := Lib.hid (policy_any exP w hu)
  clear hu
  go_enter Tryz.func4, Tryz.ntmps4
  go_wp2_with fail
  refine HPa.out.mono ?_
  rintro e w1 ⟨hq1, hp⟩
  rw [exP_pol] at hp
  obtain ⟨A, c, rfl, hs⟩ := hp
  have HQ1 := Lib.hid hq1
  have HS1 := Lib.hid hs.read
  have HPb := Lib.hid (policy_any [91, 93] w1 (Utf8Tabs_below HU.out hq1))
  clear hq1 hs HPa
  have el : exL.length = 1 := rfl
  rw [el]
  go_wp2_with fail
  refine HPb.out.mono ?_
  rintro e w2 ⟨hq2, hp⟩
  rw [exB_pol] at hp
  obtain ⟨b, rfl, -⟩ := hp
  have HQ2 := Lib.hid (HQ1.out.trans hq2)
  have HS2 := Lib.hid (HS1.out.q hq2)
  clear hq2 HPb
  obtain ⟨A', c', eA, -, -, hst⟩ := HS2.out
  rw [el] at eA
  cases eA
  obtain ⟨g, off, va, vb, vc, rfl, ⟨n1, n2, n3⟩, x0, x1, x2, x3⟩ := hst 0 (by decide)
  obtain ⟨B1, d1, rfl⟩ := n1.slice
  obtain ⟨B2, d2, e2, -, -, hn2⟩ := n2.at
  subst e2
  obtain ⟨B3, d3, rfl⟩ := n3.slice
  obtain ⟨g2, off2, rfl, z0⟩ := hn2 0 (by decide)
  replace x0 : w2.cell? ⟨g, off, none⟩ = some (.bool false) := x0
  replace x1 : w2.cell? ⟨g, off + 1, none⟩ = some (.slice B1 2 d1) := by rw [Nat.zero_mul, Nat.add_zero] at x1; exact x1
  replace x2 : w2.cell? ⟨g, off + 2, none⟩ = some (.slice (some ⟨g2, off2, none⟩) 1 d2) := by rw [Nat.zero_mul, Nat.add_zero] at x2; exact x2
  replace z0 : w2.cell? ⟨g2, off2, none⟩ = some (.string ⟨#[115, 51, 58, 42]⟩) := z0
  clear n1 n2 n3 hn2 hst x3 el
  have HM1 : Hid (∀ W, Calls Tryz.prog 10 #[.string ⟨#[97, 42, 99, 63]⟩, .string ⟨#[97, 98, 98, 99, 100]⟩] W fun e w' => e = .returned (.bool true) ∧ Q W w') := Lib.hid (fun W => by
    have := Match_any [97, 42, 99, 63] [97, 98, 98, 99, 100] W (by decide) (by decide)
    rw [exM1] at this; exact this)
  have HM2 : Hid (∀ W, Calls Tryz.prog 10 #[.string ⟨#[63]⟩, .string ⟨#[]⟩] W fun e w' => e = .returned (.bool false) ∧ Q W w') := Lib.hid (fun W => by
    have := Match_any [63] [] W (by decide) (by decide)
    rw [exM2] at this; exact this)
  go_wp2_with fail
  refine (HM1.out _).mono ?_
  rintro e w3 ⟨rfl, hq3⟩
  have HQ3 := Lib.hid hq3
  clear hq3 HM1
  go_wp2_with fail
  refine (HM2.out _).mono ?_
  rintro e w4 ⟨rfl, hq4⟩
  have HQ4 := Lib.hid (HQ3.out.trans hq4)
  clear hq4 HM2
  have HD1 : Hid (Calls Tryz.prog 11 #[.slice (some ⟨g, off, none⟩) 1 c, .string ⟨#[120]⟩, .string ⟨#[115, 51, 58, 71, 101, 116, 79, 98, 106, 101, 99, 116]⟩, .string ⟨#[114]⟩] w4 fun e w' => e = .returned (.int .i64 2) ∧ Q w4 w') := Lib.hid (by
    have := Decide_any exL [120] exG [114] _ w4 (HS2.out.q HQ4.out) exL_sh (by decide) (by decide)
    rw [exL_x] at this; exact this)
  go_wp2_with fail
  refine HD1.out.mono ?_
  rintro e w5 ⟨rfl, hq5⟩
  have HQ5 := Lib.hid (HQ4.out.trans hq5)
  clear hq5 HD1
  have HD2 : Hid (Calls Tryz.prog 11 #[.slice (some ⟨g, off, none⟩) 1 c, .string ⟨#[122]⟩, .string ⟨#[115, 51, 58, 71, 101, 116, 79, 98, 106, 101, 99, 116]⟩, .string ⟨#[114]⟩] w5 fun e w' => e = .returned (.int .i64 0) ∧ Q w5 w') := Lib.hid (by
    have := Decide_any exL [122] exG [114] _ w5 (HS2.out.q HQ5.out) exL_sh (by decide) (by decide)
    rw [exL_z] at this; exact this)
  go_wp2_with fail
  refine HD2.out.mono ?_
  rintro e w6 ⟨rfl, hq6⟩
  have HQ6 := Lib.hid (HQ2.out.trans (HQ5.out.trans hq6))
  clear hq6 HD2
  go_wp2_with fail
  go_ret
  exact ⟨rfl, HQ6.out⟩
end Go.Proofs.YtlhhiiemojhjdaaGreatDoor
set_option linter.unusedVariables false
set_option linter.unusedSimpArgs false
namespace Go.Proofs.YtlhhiiemojhjdaaGreatDoor
open Go Go.RowKit
set_option maxRecDepth 100000 in
theorem same18_any (ns : List Txt) (va vb : Value) (w : World) (ha : NsV w va ns) (hb : NsV w vb ns) : Calls Tryz.prog 18 #[va, vb] w fun e w' => e = .returned (.bool true) ∧ Q w w' := by
  obtain ⟨A, c, rfl, h1, h2, hA⟩ := ha.at
  obtain ⟨B, d, rfl, -, -, hB⟩ := hb.at
  have HA := Lib.hid hA
  have HB := Lib.hid hB
  have hnl : ns.length ≤ 9223372036854775807 := by omega
  clear ha hb hA hB h1 h2
  go_enter Tryz.func18, Tryz.ntmps18
  go_wp2_with fail
  go_loopw [5] (fun i wx => ∃ k : Nat, k ≤ ns.length ∧ i = .int .i64 (k : Int) ∧ Hid (Q w wx)) (fun i _ => ns.length - (intOf i).toNat)
  case atStart => exact ⟨0, by omega, rfl, Lib.hid (Q.refl w)⟩
  case round =>
    obtain ⟨k, hk, rfl, HI⟩ := hrel
    rename World => wa
    by_cases hlt : k < ns.length
    · have hd : decide (k < ns.length) = true := by simpa using hlt
      obtain ⟨g, off, rfl, x0⟩ := HA.out k hlt
      obtain ⟨g2, off2, rfl, x1⟩ := HB.out k hlt
      obtain ⟨t, ht⟩ : ∃ t, gL ns k = t := ⟨_, rfl⟩
      rw [ht] at x0 x1
      have k0 : ∀ m : QW wa, m.val.cell? ⟨g, off + k, none⟩ = some (.string ⟨t.toArray⟩) := fun m => m.cell (HI.out.cell x0)
      have k1 : ∀ m : QW wa, m.val.cell? ⟨g2, off2 + k, none⟩ = some (.string ⟨t.toArray⟩) := fun m => m.cell (HI.out.cell x1)
      have g3 : (t == t) = true := by simp
      clear x0 x1 ht
      go_upto_region 6 with (fail)
      refine wp_region_q (by kernel_rfl) (by kernel_rfl) ?_
      (repeat (go_big_quiet_step (fail)))
      refine wpQuiet_nil ?_
      rintro wb ⟨mb, hmb⟩
      have HQ : Hid (Q w wb) := Lib.hid (HI.out.trans (by rw [hmb]; exact mb.le))
      clear mb hmb k0 k1
      go_wp2_with fail
      go_roundw
      case rel => exact ⟨k + 1, by omega, by go_num, HQ⟩
      case measure => simp [intOf]; omega
    · have hd : decide (k < ns.length) = false := by simpa using hlt
      go_wp2_with fail
      go_ret
      exact ⟨rfl, HI.out⟩
set_option maxRecDepth 100000 in
set_option maxHeartbeats 4000000 in
theorem alike18_any (l : List StmtD) (va vb : Value) (w : World) (ha : StsV w va l) (hb : StsV w vb l) : Calls Tryz.prog 7 #[va, vb] w fun e w' => e = .returned (.bool true) ∧ Q w w' := by
  obtain ⟨A, c, rfl, h1, h2, hA⟩ := ha
  obtain ⟨B, d, rfl, -, -, hB⟩ := hb
  have HA := Lib.hid hA
  have HB := Lib.hid hB
  have hnl : l.length ≤ 9223372036854775807 := by omega
  clear hA hB h1 h2
  go_enter Tryz.func7, Tryz.ntmps7
  go_wp2_with fail
  go_loopw [5] (fun i wx => ∃ k : Nat, k ≤ l.length ∧ i = .int .i64 (k : Int) ∧ Hid (Q w wx)) (fun i _ => l.length - (intOf i).toNat)
  case atStart => exact ⟨0, by omega, rfl, Lib.hid (Q.refl w)⟩
  case round =>
    obtain ⟨k, hk, rfl, HI⟩ := hrel
    rename World => wa
    by_cases hlt : k < l.length
    · have hd : decide (k < l.length) = true := by simpa using hlt
      obtain ⟨g, off, va, vb, vc, rfl, ⟨n1, n2, n3⟩, x0, x1, x2, x3⟩ := HA.out k hlt
      obtain ⟨g2, off2, ua, ub, uc, rfl, ⟨p1, p2, p3⟩, y0, y1, y2, y3⟩ := HB.out k hlt
      obtain ⟨B1, d1, rfl⟩ := n1.slice
      obtain ⟨B2, d2, rfl⟩ := n2.slice
      obtain ⟨B3, d3, rfl⟩ := n3.slice
      obtain ⟨E1, e1, rfl⟩ := p1.slice
      obtain ⟨E2, e2, rfl⟩ := p2.slice
      obtain ⟨E3, e3, rfl⟩ := p3.slice
      obtain ⟨s, hs⟩ : ∃ s, gSt l k = s := ⟨_, rfl⟩
      rw [hs] at n1 n2 n3 p1 p2 p3 x0 x1 x2 x3 y0 y1 y2 y3
      have HS1 : Hid (∀ W, Q w W → Calls Tryz.prog 18 #[.slice B1 s.who.length d1, .slice E1 s.who.length e1] W fun e w' => e = .returned (.bool true) ∧ Q W w') := Lib.hid (fun W hq => same18_any s.who _ _ W (n1.mono (fun _ _ => hq.cell)) (p1.mono (fun _ _ => hq.cell)))
      have HS2 : Hid (∀ W, Q w W → Calls Tryz.prog 18 #[.slice B2 s.acts.length d2, .slice E2 s.acts.length e2] W fun e w' => e = .returned (.bool true) ∧ Q W w') := Lib.hid (fun W hq => same18_any s.acts _ _ W (n2.mono (fun _ _ => hq.cell)) (p2.mono (fun _ _ => hq.cell)))
      have HS3 : Hid (∀ W, Q w W → Calls Tryz.prog 18 #[.slice B3 s.ress.length d3, .slice E3 s.ress.length e3] W fun e w' => e = .returned (.bool true) ∧ Q W w') := Lib.hid (fun W hq => same18_any s.ress _ _ W (n3.mono (fun _ _ => hq.cell)) (p3.mono (fun _ _ => hq.cell)))
      obtain ⟨al, hal⟩ : ∃ al, s.allow = al := ⟨_, rfl⟩
      rw [hal] at x0 y0
      have HX : Hid (∀ W, Q w W → W.cell? ⟨g, off + k * 4, none⟩ = some (.bool al) ∧ W.cell? ⟨g2, off2 + k * 4, none⟩ = some (.bool al)) := Lib.hid (fun W hq => ⟨hq.cell x0, hq.cell y0⟩)
      have HY1 : Hid (∀ W, Q w W → W.cell? ⟨g, off + k * 4 + 1, none⟩ = some (.slice B1 s.who.length d1) ∧ W.cell? ⟨g2, off2 + k * 4 + 1, none⟩ = some (.slice E1 s.who.length e1)) := Lib.hid (fun W hq => ⟨hq.cell x1, hq.cell y1⟩)
      have HY2 : Hid (∀ W, Q w W → W.cell? ⟨g, off + k * 4 + 2, none⟩ = some (.slice B2 s.acts.length d2) ∧ W.cell? ⟨g2, off2 + k * 4 + 2, none⟩ = some (.slice E2 s.acts.length e2)) := Lib.hid (fun W hq => ⟨hq.cell x2, hq.cell y2⟩)
      have HY3 : Hid (∀ W, Q w W → W.cell? ⟨g, off + k * 4 + 3, none⟩ = some (.slice B3 s.ress.length d3) ∧ W.cell? ⟨g2, off2 + k * 4 + 3, none⟩ = some (.slice E3 s.ress.length e3)) := Lib.hid (fun W hq => ⟨hq.cell x3, hq.cell y3⟩)
      clear n1 n2 n3 p1 p2 p3 x0 x1 x2 x3 y0 y1 y2 y3 hs hal
      go_upto_region 6 with (fail)
      have k0 : ∀ m : QW wa, m.val.cell? ⟨g, off + k * 4 + 1, none⟩ = some (.slice B1 s.who.length d1) := fun m => (HY1.out _ (HI.out.trans m.le)).1
      have k1 : ∀ m : QW wa, m.val.cell? ⟨g2, off2 + k * 4 + 1, none⟩ = some (.slice E1 s.who.length e1) := fun m => (HY1.out _ (HI.out.trans m.le)).2
      have HC1 : Hid (∀ m : QW wa, Calls Tryz.prog 18 #[.slice B1 s.who.length d1, .slice E1 s.who.length e1] m.val fun e w' => e = .returned (.bool true) ∧ Q m.val w') := Lib.hid (fun m => HS1.out _ (HI.out.trans m.le))
      refine wp_region_q (by kernel_rfl) (by kernel_rfl) ?_
      (repeat (go_big_quiet_step ((go_at_call 18; exact calls_q (HC1.out _)))))
      refine wpQuiet_nil ?_
      rintro wb ⟨mb, hmb⟩
      have HQb : Hid (Q w wb) := Lib.hid (HI.out.trans (by rw [hmb]; exact mb.le))
      clear mb hmb k0 k1 HC1 HI
      go_upto_region 7 with (fail)
      have k0 : ∀ m : QW wb, m.val.cell? ⟨g, off + k * 4 + 2, none⟩ = some (.slice B2 s.acts.length d2) := fun m => (HY2.out _ (HQb.out.trans m.le)).1
      have k1 : ∀ m : QW wb, m.val.cell? ⟨g2, off2 + k * 4 + 2, none⟩ = some (.slice E2 s.acts.length e2) := fun m => (HY2.out _ (HQb.out.trans m.le)).2
      have HC1 : Hid (∀ m : QW wb, Calls Tryz.prog 18 #[.slice B2 s.acts.length d2, .slice E2 s.acts.length e2] m.val fun e w' => e = .returned (.bool true) ∧ Q m.val w') := Lib.hid (fun m => HS2.out _ (HQb.out.trans m.le))
      refine wp_region_q (by kernel_rfl) (by kernel_rfl) ?_
      (repeat (go_big_quiet_step ((go_at_call 18; exact calls_q (HC1.out _)))))
      refine wpQuiet_nil ?_
      rintro wc ⟨mc, hmc⟩
      have HQc : Hid (Q w wc) := Lib.hid (HQb.out.trans (by rw [hmc]; exact mc.le))
      clear mc hmc k0 k1 HC1 HQb
      go_upto_region 8 with (fail)
      have k0 : ∀ m : QW wc, m.val.cell? ⟨g, off + k * 4 + 3, none⟩ = some (.slice B3 s.ress.length d3) := fun m => (HY3.out _ (HQc.out.trans m.le)).1
      have k1 : ∀ m : QW wc, m.val.cell? ⟨g2, off2 + k * 4 + 3, none⟩ = some (.slice E3 s.ress.length e3) := fun m => (HY3.out _ (HQc.out.trans m.le)).2
      have HC1 : Hid (∀ m : QW wc, Calls Tryz.prog 18 #[.slice B3 s.ress.length d3, .slice E3 s.ress.length e3] m.val fun e w' => e = .returned (.bool true) ∧ Q m.val w') := Lib.hid (fun m => HS3.out _ (HQc.out.trans m.le))
      refine wp_region_q (by kernel_rfl) (by kernel_rfl) ?_
      (repeat (go_big_quiet_step ((go_at_call 18; exact calls_q (HC1.out _)))))
      refine wpQuiet_nil ?_
      rintro wd ⟨md, hmd⟩
      have HQd : Hid (Q w wd) := Lib.hid (HQc.out.trans (by rw [hmd]; exact md.le))
      clear md hmd k0 k1 HC1 HQc
      go_upto_region 9 with (fail)
      have k0 : ∀ m : QW wd, m.val.cell? ⟨g, off + k * 4, none⟩ = some (.bool al) := fun m => (HX.out _ (HQd.out.trans m.le)).1
      have k1 : ∀ m : QW wd, m.val.cell? ⟨g2, off2 + k * 4, none⟩ = some (.bool al) := fun m => (HX.out _ (HQd.out.trans m.le)).2
      refine wp_region_q (by kernel_rfl) (by kernel_rfl) ?_
      (repeat (go_big_quiet_step (fail)))
      refine wpQuiet_nil ?_
      rintro we ⟨me, hme⟩
      have HQe : Hid (Q w we) := Lib.hid (HQd.out.trans (by rw [hme]; exact me.le))
      clear me hme k0 k1 HQd
      have hal : (al != al) = false := by simp
      go_wp2_with fail
      go_roundw
      case rel => exact ⟨k + 1, by omega, by go_num, HQe⟩
      case measure => simp [intOf]; omega
    · have hd : decide (k < l.length) = false := by simpa using hlt
      go_wp2_with fail
      go_ret
      exact ⟨rfl, HI.out⟩
end Go.Proofs.YtlhhiiemojhjdaaGreatDoor
