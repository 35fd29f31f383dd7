/- Texts of this proof, laid into one: PoF, PoG, OneS, PoH, PoI. -/
import Derived.Test.YtlhhiiemojhjdaaDoorMp16
import Derived.Maps.OwnSet
import Derived.Maps.OwnOps
/- Maps from names to values. -/
set_option linter.unusedVariables false
set_option linter.unusedSimpArgs false
namespace Go.Proofs.YtlhhiiemojhjdaaDoor
open Go Go.RowKit
/-- How an element reads: as itself. -/
def heldR (v : Value) : Option (DataW Value × List MemPlace) := some (.held v, [])
abbrev KeyS : Maps.Keyed Tryd.prog 9 := Maps.string_keyed Tryd.underlying9
theorem keyS (x : Txt) (h : x.length ≤ maxLen) : keyOf Tryd.prog 9 (.string ⟨x.toArray⟩) = some (.string x) := by
  have hu := Tryd.underlying9
  unfold keyOf
  rw [hu]
  unfold mapKey
  rw [hu]
  simp [h, ByteArray.size]
theorem keyL (x : Txt) : WideAt.IsKeyLit (.string x) := trivial
/-- What the map says of each name. -/
def MapJ (w : World) (l : List (Txt × JsonD)) (D : DataW Value) : Prop := Maps.IsMap D ∧ ∀ x : Txt,
  match l.lookup x with
  | none => Maps.has D (.string x) = false
  | some j => Maps.has D (.string x) = true ∧ ∃ vn vk, JV w j vn vk ∧ ∀ z, D.atKey (.string x) z = .held (.agg (cellJ j vn vk).toArray)
theorem MapJ.q {w w' : World} {l : List (Txt × JsonD)} {D : DataW Value} (h : MapJ w l D) (hq : Q w w') : MapJ w' l D := by
  refine ⟨h.1, fun x => ?_⟩
  have hx := h.2 x
  cases hl : l.lookup x with
  | none => rw [hl] at hx; exact hx
  | some j =>
    rw [hl] at hx
    obtain ⟨h1, vn, vk, h2, h3⟩ := hx
    exact ⟨h1, vn, vk, h2.q hq, h3⟩
theorem MapJ.nil (w : World) : MapJ w [] (.map []) := ⟨⟨[], rfl⟩, fun x => rfl⟩
theorem lookup_snoc (l : List (Txt × JsonD)) (n x : Txt) (j : JsonD) (h : l.lookup n = none) : (l ++ [(n, j)]).lookup x = if x = n then some j else l.lookup x := by
  induction l with
  | nil =>
    by_cases hx : x = n
    · subst hx; simp [List.lookup]
    · have : (x == n) = false := by simpa using hx
      simp [List.lookup, hx, this]
  | cons a l ih =>
    obtain ⟨m, k⟩ := a
    rw [List.cons_append, List.lookup, List.lookup]
    rw [List.lookup] at h
    by_cases hm : x = m
    · subst hm
      have hne : ¬ x = n := by
        intro e; subst e
        simp at h
      simp [hne]
    · have hxm : (x == m) = false := by simpa using hm
      rw [hxm]
      cases hnm : (n == m) with
      | true => rw [hnm] at h; cases h
      | false => rw [hnm] at h; exact ih h
theorem MapJ.put {w : World} {l : List (Txt × JsonD)} {D : DataW Value} (h : MapJ w l D) (n : Txt) (j : JsonD) (vn vk : Value) (hn : l.lookup n = none) (hj : JV w j vn vk) : MapJ w (l ++ [(n, j)]) (D.put (.string n) (.held (.agg (cellJ j vn vk).toArray))) := by
  refine ⟨h.1.put _ _, fun x => ?_⟩
  rw [lookup_snoc l n x j hn]
  by_cases hx : x = n
  · subst hx
    rw [if_pos rfl]
    exact ⟨Maps.has_put_same h.1 (keyL x) _, vn, vk, hj, fun z => Maps.atKey_put_same h.1 (keyL x) _ _⟩
  · rw [if_neg hx]
    have hne : Lit.string x ≠ Lit.string n := by intro e; injection e with e; exact hx e
    have h2 := h.2 x
    cases hl : l.lookup x with
    | none => rw [hl] at h2; exact (Maps.has_put_other hne _).trans h2
    | some k =>
      rw [hl] at h2
      obtain ⟨h3, un, uk, h4, h5⟩ := h2
      exact ⟨(Maps.has_put_other hne _).trans h3, un, uk, h4, fun z => (Maps.atKey_put_other hne _ _).trans (h5 z)⟩
/-- A map in a block. -/
def MapB (w : World) (b : Nat) (l : List (Txt × JsonD)) : Prop := ∃ n D, w.ownsMap Tryd.prog 9 heldR b n D ∧ n ≤ l.length ∧ MapJ w l D
theorem MapB.q {w w' : World} {b : Nat} {l : List (Txt × JsonD)} (h : MapB w b l) (hq : Q w w') : MapB w' b l := by
  obtain ⟨n, D, h1, h2, h3⟩ := h
  exact ⟨n, D, h1.kept (hq.gb none) (by simp), h2, h3.q hq⟩
theorem MapB.nil (w : World) : MapB (w.alloc (.map #[] 0)) w.heap.size [] := ⟨0, .map [], World.ownsMap_made _ _ _ _, Nat.le_refl _, MapJ.nil _⟩
theorem MapB.lt {w : World} {b : Nat} {l : List (Txt × JsonD)} (h : MapB w b l) : b < w.heap.size := by
  obtain ⟨n, D, h1, _⟩ := h; exact h1.lt
/-- What stands under a name, or the zero value. -/
def orJ (o : Option JsonD) : JsonD := o.getD zeroJ
theorem zero_json (w : World) : (zeroValue 40).run Tryd.prog w = .ok (.agg zeroC.toArray) w := by kernel_rfl
theorem JV.form {w : World} {j : JsonD} {vn vk : Value} (h : JV w j vn vk) : ∃ A1 n1 c1 A2 n2 c2, vn = .slice A1 n1 c1 ∧ vk = .slice A2 n2 c2 := by
  obtain ⟨⟨A1, n1, c1, e1⟩, A2, n2, c2, e2⟩ := jv_slices h
  exact ⟨A1, n1, c1, A2, n2, c2, e1, e2⟩
theorem jv_zero (w : World) : JV w zeroJ (.slice none 0 0) (.slice none 0 0) := (jo_nil (w := w) (k := 0) (t := []) (Nat.le_refl 0)).read
/-- Looking a name up. -/
theorem MapB.look {w : World} {b : Nat} {l : List (Txt × JsonD)} (h : MapB w b l) (x : Txt) (hx : x.length ≤ maxLen) : ∃ A1 n1 c1 A2 n2 c2, JV w (orJ (l.lookup x)) (.slice A1 n1 c1) (.slice A2 n2 c2) ∧
    (Instr.lookup 94 (.map (some b)) (.string ⟨x.toArray⟩) true).run Tryd.prog w = .ok (.tuple #[.agg #[.int .i64 (orJ (l.lookup x)).kind, .string ⟨(orJ (l.lookup x)).text.toArray⟩, .slice A1 n1 c1, .slice A2 n2 c2], .bool (l.lookup x).isSome]) w ∧
    (Instr.lookup 94 (.map (some b)) (.string ⟨x.toArray⟩) false).run Tryd.prog w = .ok (.agg #[.int .i64 (orJ (l.lookup x)).kind, .string ⟨(orJ (l.lookup x)).text.toArray⟩, .slice A1 n1 c1, .slice A2 n2 c2]) w := by
  obtain ⟨n, D, h1, h2, h3⟩ := h
  have hk := keyS x hx
  have hm := h3.2 x
  obtain ⟨v, ps, r1, e1⟩ := h1.look_ok KeyS Tryd.underlying94 (zero_json w) (zd := .held (.agg zeroC.toArray)) (zp := []) rfl hk
  obtain ⟨v', ps', r2, e2⟩ := h1.lookup KeyS Tryd.underlying94 (zero_json w) (zd := .held (.agg zeroC.toArray)) (zp := []) rfl hk
  unfold heldR at e1 e2
  injection e1 with e1
  injection e2 with e2
  have e1 := congrArg Prod.fst e1
  have e2 := congrArg Prod.fst e2
  simp only at e1 e2
  cases hl : l.lookup x with
  | none =>
    rw [hl] at hm
    rw [Maps.atKey_of_not_has hm] at e1 e2
    injection e1 with e1
    injection e2 with e2
    subst e1
    subst e2
    rw [hm] at r1
    exact ⟨none, 0, 0, none, 0, 0, jv_zero w, r1, r2⟩
  | some j =>
    rw [hl] at hm
    obtain ⟨g1, vn, vk, g2, g3⟩ := hm
    rw [g3] at e1 e2
    injection e1 with e1
    injection e2 with e2
    subst e1
    subst e2
    rw [g1] at r1
    obtain ⟨A1, n1, c1, A2, n2, c2, rfl, rfl⟩ := g2.form
    exact ⟨A1, n1, c1, A2, n2, c2, g2, r1, r2⟩
/-- Is a text among some? -/
theorem contains_any (ns : List Txt) (x : Txt) (w : World) (vn : Value) (h : NsV w vn ns) : Calls Tryd.prog 90 #[vn, .string ⟨x.toArray⟩] w fun e w' => e = .returned (.bool (decide (x ∈ ns))) ∧ Q w w' := by
  obtain ⟨A, c, rfl⟩ := h.slice
  have HI := Lib.hid (index_name ns x w _ h)
  have key : ∀ (l : List Txt) (k : Nat), decide (0 ≤ ixN x l k) = decide (x ∈ l) := by
    intro l
    induction l with
    | nil => intro k; simp [ixN]
    | cons a l ih =>
      intro k
      rw [ixN]
      by_cases hx : x = a
      · rw [if_pos hx]; subst hx; simp
      · rw [if_neg hx, ih]; simp [hx]
  obtain ⟨R, hR⟩ : ∃ R, decide (x ∈ ns) = R := ⟨_, rfl⟩
  have hk := key ns 0
  rw [hR] at hk ⊢
  obtain ⟨I, hI⟩ : ∃ I, ixN x ns 0 = I := ⟨_, rfl⟩
  rw [hI] at hk HI
  clear key hI hR h
  go_enter Tryd.func90, Tryd.ntmps90
  go_wp2_with fail
  refine HI.out.mono ?_
  rintro e w1 ⟨rfl, hq⟩
  go_wp2_with fail
  go_ret
  exact ⟨rfl, hq⟩
end Go.Proofs.YtlhhiiemojhjdaaDoor
/- policy.object: an object's values by their names. -/
set_option linter.unusedVariables false
set_option linter.unusedSimpArgs false
namespace Go.Proofs.YtlhhiiemojhjdaaDoor
open Go Go.RowKit
theorem JV.full {w : World} {j : JsonD} {vn vk : Value} (h : JV w j vn vk) : ∃ k t ns ks A1 c1 A2 c2, j = .mk k t ns ks ∧ vn = .slice A1 ns.length c1 ∧ vk = .slice A2 ks.length c2 := by
  obtain ⟨k, t, ns, ks⟩ := j
  obtain ⟨⟨A, c, e, _⟩, A', c', e', _⟩ := jv_form h
  exact ⟨k, t, ns, ks, A, c, A', c', rfl, e, e'⟩
def ObjP (j : JsonD) (nms : List Txt) (w : World) (e : Ending) (w' : World) : Prop := Q w w' ∧
  ((onlyJ j nms = true ∧ ∃ b, e = .returned (.tuple #[.map (some b), .nilIface]) ∧ MapB w' b (j.names.zip j.kids)) ∨ (onlyJ j nms = false ∧ e = .returned (.tuple #[.map none, .iface 41 (.int .i64 58)])))
/-- So far: each name once, all of them allowed. -/
def OnlyK (nms l : List Txt) : Prop := l.Nodup ∧ ∀ x ∈ l, x ∈ nms
theorem only_snoc {nms l : List Txt} {x : Txt} (h : OnlyK nms l) (h1 : x ∉ l) (h2 : x ∈ nms) : OnlyK nms (l ++ [x]) := by
  refine ⟨List.nodup_append.2 ⟨h.1, by simp, fun a ha b hb e => by simp at hb; subst hb; subst e; exact h1 ha⟩, fun y hy => ?_⟩
  rcases List.mem_append.1 hy with hy | hy
  · exact h.2 y hy
  · rw [List.mem_singleton.1 hy]; exact h2
theorem take_gL (l : List Txt) (k : Nat) (h : k < l.length) : l.take (k + 1) = l.take k ++ [gL l k] := by
  rw [List.take_succ_eq_append_getElem h]; simp [gL, List.getD, h]
theorem gL_mem (l : List Txt) (k : Nat) (h : k < l.length) : gL l k ∈ l := by
  have : gL l k = l[k] := by simp [gL, List.getD, h]
  rw [this]; exact List.getElem_mem h
theorem only_iff (k : Int) (t : Txt) (ns nms : List Txt) (ks : List JsonD) : onlyJ (.mk k t ns ks) nms = true ↔ k = 7 ∧ OnlyK nms ns := by
  unfold onlyJ
  rw [Bool.and_eq_true, Bool.and_eq_true, decide_eq_true_iff, decide_eq_true_iff, List.all_eq_true]
  constructor
  · rintro ⟨⟨h1, h2⟩, h3⟩; exact ⟨h1, h2, fun x hx => of_decide_eq_true (h3 x hx)⟩
  · rintro ⟨h1, h2, h3⟩; exact ⟨⟨h1, h2⟩, fun x hx => decide_eq_true (h3 x hx)⟩
theorem only_false {k : Int} {t : Txt} {ns nms : List Txt} {ks : List JsonD} (h : ¬ (k = 7 ∧ OnlyK nms ns)) : onlyJ (.mk k t ns ks) nms = false := by
  cases ho : onlyJ (.mk k t ns ks) nms with
  | false => rfl
  | true => exact absurd ((only_iff k t ns nms ks).1 ho) h
theorem only_all {k : Int} {t : Txt} {ns nms : List Txt} {ks : List JsonD} (hk : k = 7) (h : OnlyK nms ns) : onlyJ (.mk k t ns ks) nms = true := (only_iff k t ns nms ks).2 ⟨hk, h⟩
theorem only_twice {k : Int} {t : Txt} {ns nms : List Txt} {ks : List JsonD} {i : Nat} (hi : i < ns.length) (h : gL ns i ∈ ns.take i) : onlyJ (.mk k t ns ks) nms = false := only_false fun ho => by
  have hn := ho.2.1
  rw [← List.take_append_drop (i + 1) ns, take_gL ns i hi, List.append_assoc] at hn
  exact absurd rfl ((List.nodup_append.1 hn).2.2 _ h _ (by simp))
theorem only_other {k : Int} {t : Txt} {ns nms : List Txt} {ks : List JsonD} {i : Nat} (hi : i < ns.length) (h : gL ns i ∉ nms) : onlyJ (.mk k t ns ks) nms = false := only_false fun ho => h (ho.2.2 _ (gL_mem ns i hi))
theorem only_kind {k : Int} {t : Txt} {ns nms : List Txt} {ks : List JsonD} (h : ¬ k = 7) : onlyJ (.mk k t ns ks) nms = false := only_false fun ho => h ho.1
theorem zip_look : ∀ (ns : List Txt) (ks : List JsonD) (k : Nat) (x : Txt), ns.length = ks.length → (((ns.zip ks).take k).lookup x).isSome = decide (x ∈ ns.take k)
  | [], _, k, x, _ => by simp
  | n :: ns, [], k, x, h => by simp at h
  | n :: ns, j :: ks, 0, x, h => by simp
  | n :: ns, j :: ks, k + 1, x, h => by
    rw [List.zip_cons_cons, List.take_succ_cons, List.take_succ_cons, List.lookup]
    by_cases hx : x = n
    · subst hx; simp
    · have h1 : (x == n) = false := by simpa using hx
      rw [h1]
      simp only
      rw [zip_look ns ks k x (by simpa using h)]
      simp [hx]
theorem zip_snoc (ns : List Txt) (ks : List JsonD) (k : Nat) (h : ns.length = ks.length) (hk : k < ns.length) : (ns.zip ks).take (k + 1) = (ns.zip ks).take k ++ [(gL ns k, gK ks k)] := by
  rw [List.take_succ_eq_append_getElem (by simp; omega)]
  congr 2
  rw [List.getElem_zip]
  have h1 : gL ns k = ns[k] := by simp [gL, List.getD, hk]
  rw [h1, gK_get ks k (by omega)]
/-- The loop's world. -/
def ObSt (w0 : World) (nms ns : List Txt) (ks : List JsonD) (N b k : Nat) (row : Obj) (wx : World) : Prop :=
  (∃ n D, wx.ownsMap Tryd.prog 9 heldR b n D ∧ n ≤ k ∧ MapJ w0 ((ns.zip ks).take k) D) ∧ Q w0 wx ∧ wx.heap[N]? = some row ∧ OnlyK nms (ns.take k)
set_option maxRecDepth 100000 in
theorem object_any (k : Int) (t : Txt) (ns : List Txt) (ks : List JsonD) (A1 A2 : Option Addr) (c1 c2 : Nat) (nms : List Txt) (A3 : Option Addr) (c3 : Nat) (w : World) (hj : JV w (.mk k t ns ks) (.slice A1 ns.length c1) (.slice A2 ks.length c2)) (hn : NsV w (.slice A3 nms.length c3) nms)
    (hl : k = 7 → ns.length = ks.length) (hb : ns.length ≤ 1000000) (hs : ∀ i, i < ns.length → (gL ns i).length ≤ 140737488355328) :
    Calls Tryd.prog 59 #[.agg #[.int .i64 k, .string ⟨t.toArray⟩, .slice A1 ns.length c1, .slice A2 ks.length c2], .slice A3 nms.length c3] w (ObjP (.mk k t ns ks) nms w) := by
  have HJ := Lib.hid hj
  have HNm := Lib.hid hn
  have HS := Lib.hid hs
  obtain ⟨W, hW⟩ : ∃ W, w.alloc (.cells #[.int .i64 k, .string ⟨t.toArray⟩, .slice A1 ns.length c1, .slice A2 ks.length c2] 40) = W := ⟨_, rfl⟩
  have hqW : Q w W := by rw [← hW]; exact (Q.refl w).alloc _
  have hrow := heap_alloc_new w (.cells #[.int .i64 k, .string ⟨t.toArray⟩, .slice A1 ns.length c1, .slice A2 ks.length c2] 40)
  obtain ⟨N, hN⟩ : ∃ N, w.heap.size = N := ⟨_, rfl⟩
  rw [hW, hN] at hrow
  have HNl : Hid (w.heap.size ≤ N) := Lib.hid (Nat.le_of_eq hN)
  have HQW := Lib.hid hqW
  have HRow := Lib.hid hrow
  have y0 : W.cell? ⟨N, 0, none⟩ = some (.int .i64 k) := by rw [cell_of_row _ _ _ _ _ _ hrow]; rfl
  clear hj hn hs hqW hrow
  go_enter Tryd.func59, Tryd.ntmps59
  go_upto_region 1 with (fail)
  clear hW hN
  by_cases hk : k = 7
  · have hl7 := hl hk
    have HL := Lib.hid hl7
    have HK := Lib.hid hk
    subst hk
    clear hl hl7
    have hmk := run_makeMap (P := Tryd.prog) 94 W
    go_upto_region 4 with (fail)
    have HM0 := Lib.hid (World.ownsMap_made W Tryd.prog 9 heldR)
    obtain ⟨W2, hW2⟩ : ∃ W2, W.alloc (.map #[] 0) = W2 := ⟨_, rfl⟩
    obtain ⟨b, hb2⟩ : ∃ b, W.heap.size = b := ⟨_, rfl⟩
    have hq2 : Q W W2 := by rw [← hW2]; exact (Q.refl W).alloc _
    rw [hW2, hb2] at HM0
    rw [hW2, hb2]
    have HS0 : Hid (ObSt w nms ns ks N b 0 (.cells #[.int .i64 7, .string ⟨t.toArray⟩, .slice A1 ns.length c1, .slice A2 ks.length c2] 40 (0, 0)) W2) := Lib.hid ⟨⟨0, _, HM0.out, Nat.le_refl _, by rw [List.take_zero]; exact MapJ.nil w⟩, HQW.out.trans hq2, hq2.block HRow.out, by rw [List.take_zero]; exact ⟨List.nodup_nil, fun x hx => by cases hx⟩⟩
    have HBl : Hid (w.heap.size ≤ b ∧ N ≠ b) := Lib.hid ⟨by rw [← hb2]; exact HQW.out.size, by rw [← hb2]; exact Nat.ne_of_lt (lt_of_heap HRow.out)⟩
    have y2 : W2.cell? ⟨N, 2, none⟩ = some (.slice A1 ns.length c1) := by rw [cell_of_row _ _ _ _ _ _ HS0.out.2.2.1]; rfl
    clear hW2 hb2 hq2 y0 hmk HM0
    go_wp2_with fail
    go_loopw [19] (fun i wx => ∃ k : Nat, k ≤ ns.length ∧ i = .int .i64 (k : Int) ∧ Hid (ObSt w nms ns ks N b k (.cells #[.int .i64 7, .string ⟨t.toArray⟩, .slice A1 ns.length c1, .slice A2 ks.length c2] 40 (0, 0)) wx)) (fun i _ => ns.length - (intOf i).toNat)
    case atStart => exact ⟨0, by omega, rfl, HS0⟩
    case round =>
      obtain ⟨k, hk, rfl, HI⟩ := hrel
      rename World => wa
      by_cases hlt : k < ns.length
      · have hd : decide (k < ns.length) = true := by simpa using hlt
        obtain ⟨x, hx⟩ : ∃ x, gL ns k = x := ⟨_, rfl⟩
        have hns : NsV w (.slice A1 ns.length c1) ns := by have := HJ.out; rw [JV] at this; exact this.1
        obtain ⟨A, c, hAe, -, -, hcl⟩ := hns.at
        cases hAe
        obtain ⟨g, off, rfl, x0⟩ := hcl k hlt
        rw [hx] at x0
        replace x0 := HI.out.2.1.cell x0
        have hxl : x.length ≤ 140737488355328 := by rw [← hx]; exact HS.out k hlt
        have HX := Lib.hid hx
        have hlk := zip_look ns ks k x HL.out
        have HB : Hid (MapB wa b ((ns.zip ks).take k)) := Lib.hid (by
          obtain ⟨⟨n, D, h1, h2, h3⟩, h4, h5, h6⟩ := HI.out
          exact ⟨n, D, h1, by rw [List.length_take, List.length_zip, ← HL.out]; omega, h3.q h4⟩)
        obtain ⟨B1, n1, d1, B2, n2, d2, hjv, r1, -⟩ := HB.out.look x (Nat.le_trans hxl (by decide))
        obtain ⟨r, hr⟩ : ∃ r, ((ns.zip ks).take k |>.lookup x).isSome = r := ⟨_, rfl⟩
        rw [hr] at r1 hlk
        have HLk := Lib.hid hlk
        obtain ⟨kk, hkk⟩ : ∃ kk, (orJ (((ns.zip ks).take k).lookup x)).kind = kk := ⟨_, rfl⟩
        obtain ⟨tt, htt⟩ : ∃ tt, (orJ (((ns.zip ks).take k).lookup x)).text = tt := ⟨_, rfl⟩
        rw [hkk, htt] at r1
        have HRn := Lib.hid hr
        clear hx hlk hjv hkk htt hcl hr hns
        go_upto_region 8 with (fail)
        obtain ⟨W3, hW3⟩ : ∃ W3, wa.alloc (.cells #[.int .i64 kk, .string ⟨tt.toArray⟩, .slice B1 n1 d1, .slice B2 n2 d2] 40) = W3 := ⟨_, rfl⟩
        have hq3 : Q wa W3 := by rw [← hW3]; exact (Q.refl wa).alloc _
        have HI3 : Hid (ObSt w nms ns ks N b k (.cells #[.int .i64 7, .string ⟨t.toArray⟩, .slice (some ⟨g, off, none⟩) ns.length c1, .slice A2 ks.length c2] 40 (0, 0)) W3) := Lib.hid (by
          obtain ⟨⟨n, D, h1, h2, h3⟩, h4, h5, h6⟩ := HI.out
          exact ⟨⟨n, D, h1.kept (hq3.gb none) (by simp), h2, h3⟩, h4.trans hq3, hq3.block h5, h6⟩)
        rw [hW3]
        clear hW3 hq3 HI HB r1 x0 y2 HS0
        cases r with
        | true =>
          have HO : Hid (onlyJ (.mk 7 t ns ks) nms = false) := Lib.hid (only_twice hlt (by rw [HX.out]; exact of_decide_eq_true HLk.out.symm))
          go_wp2_with fail
          refine (errNone_any _).mono ?_
          rintro e w4 ⟨rfl, hq4⟩
          have HQ := Lib.hid (HI3.out.2.1.trans hq4)
          clear hq4
          go_wp2_with fail
          go_ret2
          exact ⟨HQ.out, .inr ⟨HO.out, rfl⟩⟩
        | false =>
          have HCt := Lib.hid (contains_any nms x W3 (.slice A3 nms.length c3) (HNm.out.mono (fun _ _ => HI3.out.2.1.cell)))
          go_wp2_with fail
          refine HCt.out.mono ?_
          rintro e w4 ⟨rfl, hq4⟩
          have HQ4 := Lib.hid hq4
          clear hq4 HCt
          by_cases hin : x ∈ nms
          · have hdi : decide (x ∈ nms) = true := decide_eq_true hin
            have hkv := HJ.out.kid
            obtain ⟨B, cc, hBe, -, -, hkid⟩ := hkv
            cases hBe
            obtain ⟨gk, ok, vn', vk', rfl, z0, z1, z2, z3, zv⟩ := hkid k (by rw [← HL.out]; exact hlt)
            have hq04 : Q w w4 := HI3.out.2.1.trans HQ4.out
            replace z0 := hq04.cell z0
            replace z1 := hq04.cell z1
            replace z2 := hq04.cell z2
            replace z3 := hq04.cell z3
            obtain ⟨E1, m1, e1, E2, m2, e2, rfl, rfl⟩ := zv.form
            have hrow4 := HQ4.out.block HI3.out.2.2.1
            have y3 : w4.cell? ⟨N, 3, none⟩ = some (.slice (some ⟨gk, ok, none⟩) ks.length c2) := by rw [cell_of_row _ _ _ _ _ _ hrow4]; rfl
            have hkl : k < ks.length := by rw [← HL.out]; exact hlt
            have hdk : decide (k < ks.length) = true := by simpa using hkl
            have hlkn : ((ns.zip ks).take k).lookup x = none := by
              have := HRn.out
              cases hl : ((ns.zip ks).take k).lookup x with
              | none => rfl
              | some v => rw [hl] at this; cases this
            obtain ⟨⟨n, D, h1, h2, h3⟩, h4, h5, h6⟩ := HI3.out
            have hown := h1.kept (hq04.gb none |> fun _ => HQ4.out.gb none) (by simp)
            have HPut := Lib.hid (h3.put x (gK ks k) _ _ hlkn zv)
            obtain ⟨kd, hkd⟩ : ∃ kd, (gK ks k).kind = kd := ⟨_, rfl⟩
            obtain ⟨td, htd⟩ : ∃ td, (gK ks k).text = td := ⟨_, rfl⟩
            have hcj : (cellJ (gK ks k) (.slice E1 m1 e1) (.slice E2 m2 e2)).toArray = #[.int .i64 kd, .string ⟨td.toArray⟩, .slice E1 m1 e1, .slice E2 m2 e2] := by rw [← hkd, ← htd]; rfl
            rw [hcj] at HPut
            rw [hkd] at z0
            rw [htd] at z1
            have HOk : Hid (OnlyK nms (ns.take (k + 1))) := Lib.hid (by
              rw [take_gL ns k hlt, HX.out]
              exact only_snoc h6 (of_decide_eq_false HLk.out.symm) hin)
            have HZp : Hid ((ns.zip ks).take (k + 1) = (ns.zip ks).take k ++ [(x, gK ks k)]) := Lib.hid (by rw [zip_snoc ns ks k HL.out hlt, HX.out])
            have HQ04 := Lib.hid hq04
            have HRow4 := Lib.hid hrow4
            have HKey := Lib.hid (keyS x (Nat.le_trans hxl (by decide)))
            have hnm : n < maxLen := by unfold maxLen; omega
            have HOwn := Lib.hid hown
            have HNk := Lib.hid h2
            clear hin zv h1 h2 h3 h4 h5 h6 hq04 hrow4 hlkn hkd htd hcj hkid hown HI3
            go_upto_region 10 with (fail)
            go_wp2_with (at_mapUpdate; refine wpList_mapUpdate_own _ rfl _ _ _ 94 rfl 9 40 KeyS Tryd.underlying94 heldR b n D rfl HOwn.out hnm _ _ (.string x) rfl rfl HKey.out (.held (.agg #[.int .i64 kd, .string ⟨td.toArray⟩, .slice E1 m1 e1, .slice E2 m2 e2])) [] rfl ?_; intro w5 hown5 hgrow5)
            have HN : Hid (ObSt w nms ns ks N b (k + 1) (.cells #[.int .i64 7, .string ⟨t.toArray⟩, .slice (some ⟨g, off, none⟩) ns.length c1, .slice (some ⟨gk, ok, none⟩) ks.length c2] 40 (0, 0)) w5) := Lib.hid
              ⟨⟨n + 1, _, hown5, Nat.succ_le_succ HNk.out, by rw [HZp.out]; exact HPut.out⟩, HQ04.out.grown hgrow5 HQ04.out.size (fun k hk => by injection hk with hk; subst hk; exact HBl.out.1),
                by rw [hgrow5.block N (lt_of_heap HRow4.out) (fun e => by injection e with e; exact HBl.out.2 e)]; exact HRow4.out, HOk.out⟩
            clear hown5 hgrow5 HPut HOwn
            go_roundw
            case rel => exact ⟨k + 1, by omega, by go_num, HN⟩
            case measure => simp [intOf]; omega
          · have hdi : decide (x ∈ nms) = false := decide_eq_false hin
            have HO : Hid (onlyJ (.mk 7 t ns ks) nms = false) := Lib.hid (only_other hlt (by rw [HX.out]; exact hin))
            have HQ5 := Lib.hid (HI3.out.2.1.trans HQ4.out)
            clear hin
            go_wp2_with fail
            refine (errNone_any _).mono ?_
            rintro e w5 ⟨rfl, hq5⟩
            have HQ := Lib.hid (HQ5.out.trans hq5)
            clear hq5
            go_wp2_with fail
            go_ret2
            exact ⟨HQ.out, .inr ⟨HO.out, rfl⟩⟩
      · have hd : decide (k < ns.length) = false := by simpa using hlt
        have HR : Hid (ObjP (.mk 7 t ns ks) nms w (.returned (.tuple #[.map (some b), .nilIface])) wa) := Lib.hid (by
          obtain ⟨⟨n, D, h1, h2, h3⟩, h4, h5, h6⟩ := HI.out
          rw [List.take_of_length_le (by omega)] at h6
          rw [List.take_of_length_le (by simp; omega)] at h3
          exact ⟨h4, .inl ⟨only_all rfl h6, b, rfl, n, D, h1, by show n ≤ (ns.zip ks).length; rw [List.length_zip, ← HL.out]; omega, h3.q h4⟩⟩)
        clear HI
        go_wp2_with fail
        go_ret2
        exact HR.out
  · have hkd : (k != 7) = true := by simpa using hk
    have hkd2 : (k == 7) = false := by simpa using hk
    have HX : Hid (onlyJ (.mk k t ns ks) nms = false) := Lib.hid (only_kind hk)
    clear hk hl
    go_wp2_with fail
    refine (errNone_any _).mono ?_
    rintro e w1 ⟨rfl, hq⟩
    have HQ := Lib.hid (HQW.out.trans hq)
    clear hq
    go_wp2_with fail
    go_ret2
    exact ⟨HQ.out, .inr ⟨HX.out, rfl⟩⟩
end Go.Proofs.YtlhhiiemojhjdaaDoor
/- A slice of strings: one cell each. -/
set_option linter.unusedVariables false
namespace Go.Proofs.YtlhhiiemojhjdaaDoor
open Go Go.RowKit
theorem oneStr : OneCell Tryd.prog 23 9 (.string ⟨#[]⟩) 16 := ⟨Tryd.underlying23, by kernel_rfl, rfl⟩
end Go.Proofs.YtlhhiiemojhjdaaDoor
/- policy.texts: a text, or a list of some. -/
set_option linter.unusedVariables false
set_option linter.unusedSimpArgs false
namespace Go.Proofs.YtlhhiiemojhjdaaDoor
open Go Go.RowKit
/-- Texts of the call's own, or the refusal. -/
def TextsP (o : Option (List Txt)) (w : World) (e : Ending) (w' : World) : Prop := Q w w' ∧
  match o with
  | some l => ∃ A c, e = .returned (.tuple #[.slice A l.length c, .nilIface]) ∧ OwnS 9 w w' (.slice A l.length c) (l.map strV)
  | none => e = .returned (.tuple #[.slice none 0 0, .iface 41 (.int .i64 58)])
/-- Values in a row, to be read. -/
def KidsV (w : World) (A : Option Addr) (L : List JsonD) : Prop := ∀ i, i < L.length → ∃ g off E1 m1 e1 E2 m2 e2, A = some ⟨g, off, none⟩ ∧
  w.cell? ⟨g, off + i * 4, none⟩ = some (.int .i64 (gK L i).kind) ∧ w.cell? ⟨g, off + i * 4 + 1, none⟩ = some (.string ⟨(gK L i).text.toArray⟩) ∧ w.cell? ⟨g, off + i * 4 + 2, none⟩ = some (.slice E1 m1 e1) ∧ w.cell? ⟨g, off + i * 4 + 3, none⟩ = some (.slice E2 m2 e2) ∧ JV w (gK L i) (.slice E1 m1 e1) (.slice E2 m2 e2)
theorem KidsV.q {w w' : World} {A : Option Addr} {L : List JsonD} (h : KidsV w A L) (hq : Q w w') : KidsV w' A L := fun i hi => by
  obtain ⟨g, off, E1, m1, e1, E2, m2, e2, h1, h2, h3, h4, h5, h6⟩ := h i hi
  exact ⟨g, off, E1, m1, e1, E2, m2, e2, h1, hq.cell h2, hq.cell h3, hq.cell h4, hq.cell h5, h6.q hq⟩
theorem JV.kids {w : World} {k : Int} {t : Txt} {ns : List Txt} {ks : List JsonD} {vn : Value} {A : Option Addr} {n c : Nat} (h : JV w (.mk k t ns ks) vn (.slice A n c)) : KidsV w A ks := by
  obtain ⟨B, c', he, -, -, hk⟩ := h.kid
  cases he
  intro i hi
  obtain ⟨g, off, un, uk, e, z0, z1, z2, z3, zv⟩ := hk i hi
  obtain ⟨E1, m1, e1, E2, m2, e2, rfl, rfl⟩ := zv.form
  exact ⟨g, off, E1, m1, e1, E2, m2, e2, e, z0, z1, z2, z3, zv⟩
/-- A value in a row of its own. -/
theorem kids_one {w W : World} {j : JsonD} {E1 E2 : Option Addr} {m1 e1 m2 e2 M : Nat} {ty : TypeId} (hj : JV w j (.slice E1 m1 e1) (.slice E2 m2 e2)) (hq : Q w W) (hr : W.heap[M]? = some (.cells #[.int .i64 j.kind, .string ⟨j.text.toArray⟩, .slice E1 m1 e1, .slice E2 m2 e2] ty (0, 0))) : KidsV W (some ⟨M, 0, none⟩) [j] := by
  intro i hi
  have hi0 : i = 0 := by simpa using hi
  subst hi0
  have hg : gK [j] 0 = j := rfl
  rw [hg]
  exact ⟨M, 0, E1, m1, e1, E2, m2, e2, rfl, by rw [cell_of_row _ _ _ _ _ _ hr]; rfl, by rw [cell_of_row _ _ _ _ _ _ hr]; rfl, by rw [cell_of_row _ _ _ _ _ _ hr]; rfl, by rw [cell_of_row _ _ _ _ _ _ hr]; rfl, hj.q hq⟩
/-- All of these are texts. -/
def listT (L : List JsonD) : Option (List Txt) := if L ≠ [] ∧ L.all (fun k => decide (k.kind = 5)) = true then some (L.map (·.text)) else none
theorem listT_no {L : List JsonD} {k : Nat} (hk : k < L.length) (h : ¬ (gK L k).kind = 5) : listT L = none := by
  unfold listT
  rw [if_neg]
  rintro ⟨_, h2⟩
  rw [List.all_eq_true] at h2
  have hm : gK L k ∈ L := by rw [gK_get L k hk]; exact List.getElem_mem hk
  exact h (of_decide_eq_true (h2 _ hm))
theorem listT_yes {L : List JsonD} (h0 : L ≠ []) (h : ∀ x ∈ L, x.kind = 5) : listT L = some (L.map (·.text)) := by
  unfold listT
  rw [if_pos ⟨h0, by rw [List.all_eq_true]; exact fun x hx => decide_eq_true (h x hx)⟩]
theorem texts5 (t : Txt) (ns : List Txt) (ks : List JsonD) : textsJ (.mk 5 t ns ks) = listT [.mk 5 t ns ks] := rfl
theorem texts6 (t : Txt) (ns : List Txt) (ks : List JsonD) : textsJ (.mk 6 t ns ks) = listT ks := rfl
theorem textsN {k : Int} (t : Txt) (ns : List Txt) (ks : List JsonD) (h5 : ¬ k = 5) (h6 : ¬ k = 6) : textsJ (.mk k t ns ks) = none := by
  show (if k = 5 then _ else if k = 6 then _ else _) = _
  rw [if_neg h5, if_neg h6]
/-- The loop's world. -/
def TxSt (W : World) (L : List JsonD) (k : Nat) (v : Value) (wx : World) : Prop := OwnS 9 W wx v ((L.take k).map fun j => strV j.text) ∧ Q W wx ∧ ∀ x ∈ L.take k, x.kind = 5
set_option maxRecDepth 100000 in
theorem texts_any (k : Int) (t : Txt) (ns : List Txt) (ks : List JsonD) (A1 A2 : Option Addr) (c1 c2 : Nat) (w : World) (hj : JV w (.mk k t ns ks) (.slice A1 ns.length c1) (.slice A2 ks.length c2)) (hb : ks.length ≤ 1000000) :
    Calls Tryd.prog 92 #[.agg #[.int .i64 k, .string ⟨t.toArray⟩, .slice A1 ns.length c1, .slice A2 ks.length c2]] w (TextsP (textsJ (.mk k t ns ks)) w) := by
  have HJ := Lib.hid hj
  obtain ⟨W, hW⟩ : ∃ W, w.alloc (.cells #[.int .i64 k, .string ⟨t.toArray⟩, .slice A1 ns.length c1, .slice A2 ks.length c2] 40) = W := ⟨_, rfl⟩
  have hqW : Q w W := by rw [← hW]; exact (Q.refl w).alloc _
  have hrow := heap_alloc_new w (.cells #[.int .i64 k, .string ⟨t.toArray⟩, .slice A1 ns.length c1, .slice A2 ks.length c2] 40)
  obtain ⟨N, hN⟩ : ∃ N, w.heap.size = N := ⟨_, rfl⟩
  rw [hW, hN] at hrow
  have HQW := Lib.hid hqW
  have HRow := Lib.hid hrow
  have y0 : W.cell? ⟨N, 0, none⟩ = some (.int .i64 k) := by rw [cell_of_row _ _ _ _ _ _ hrow]; rfl
  have y1 : W.cell? ⟨N, 1, none⟩ = some (.string ⟨t.toArray⟩) := by rw [cell_of_row _ _ _ _ _ _ hrow]; rfl
  have y2 : W.cell? ⟨N, 2, none⟩ = some (.slice A1 ns.length c1) := by rw [cell_of_row _ _ _ _ _ _ hrow]; rfl
  have y3 : W.cell? ⟨N, 3, none⟩ = some (.slice A2 ks.length c2) := by rw [cell_of_row _ _ _ _ _ _ hrow]; rfl
  clear hj hqW hrow
  by_cases hk : k = 5 ∨ k = 6
  · obtain ⟨O, hO⟩ : ∃ O, textsJ (.mk k t ns ks) = O := ⟨_, rfl⟩
    rw [hO]
    go_enter Tryd.func92, Tryd.ntmps92
    go_upto_region 1 with (fail)
    clear hW hN
    rcases hk with hk | hk
    case' inl =>
      subst hk
      go_upto_region 8 with (fail)
      have hrow2 := heap_alloc_new W (.cells #[.int .i64 5, .string ⟨t.toArray⟩, .slice A1 ns.length c1, .slice A2 ks.length c2] 40)
      obtain ⟨W2, hW2⟩ : ∃ W2, W.alloc (.cells #[.int .i64 5, .string ⟨t.toArray⟩, .slice A1 ns.length c1, .slice A2 ks.length c2] 40) = W2 := ⟨_, rfl⟩
      obtain ⟨M, hM⟩ : ∃ M, W.heap.size = M := ⟨_, rfl⟩
      have hq2 : Q W W2 := by rw [← hW2]; exact (Q.refl W).alloc _
      rw [hW2, hM] at hrow2
      rw [hW2, hM]
      obtain ⟨L, hL⟩ : ∃ L, L = [JsonD.mk 5 t ns ks] := ⟨_, rfl⟩
      obtain ⟨A, hA⟩ : ∃ A : Option Addr, A = some ⟨M, 0, none⟩ := ⟨_, rfl⟩
      obtain ⟨m, hm⟩ : ∃ m : Nat, m = 1 := ⟨_, rfl⟩
      obtain ⟨c, hc⟩ : ∃ c : Nat, c = 1 := ⟨_, rfl⟩
      have HKd : Hid (KidsV W2 A L) := Lib.hid (by rw [hA, hL]; exact kids_one HJ.out (HQW.out.trans hq2) hrow2)
      have HLm : Hid (L.length = m) := Lib.hid (by rw [hL, hm]; rfl)
      have HLT : Hid (listT L = O) := Lib.hid (by rw [hL, ← texts5]; exact hO)
      have HQ2 := Lib.hid (HQW.out.trans hq2)
      have hml : m ≤ 1000000 := by omega
      have e1 : Value.slice (some ⟨M, 0, none⟩) 1 1 = .slice A m c := by rw [hA, hm, hc]
      rw [e1]
      clear hL hA hm hc e1 hW2 hM hq2 hrow2 hO y0 y1 y2 y3
    case' inr =>
      subst hk
      go_upto_region 8 with (fail)
      obtain ⟨W2, hW2⟩ : ∃ W2, W = W2 := ⟨_, rfl⟩
      obtain ⟨L, hL⟩ : ∃ L, ks = L := ⟨_, rfl⟩
      obtain ⟨A, hA⟩ : ∃ A : Option Addr, A2 = A := ⟨_, rfl⟩
      obtain ⟨m, hm⟩ : ∃ m : Nat, ks.length = m := ⟨_, rfl⟩
      obtain ⟨c, hc⟩ : ∃ c : Nat, c2 = c := ⟨_, rfl⟩
      have HKd : Hid (KidsV W2 A L) := Lib.hid (by rw [← hL, ← hA, ← hW2]; exact HJ.out.kids.q HQW.out)
      have HLm : Hid (L.length = m) := Lib.hid (by rw [← hL, hm])
      have HLT : Hid (listT L = O) := Lib.hid (by rw [← hL, ← texts6 t ns]; exact hO)
      have HQ2 : Hid (Q w W2) := Lib.hid (by rw [← hW2]; exact HQW.out)
      have hml : m ≤ 1000000 := by omega
      rw [hm, hA, hc, hW2]
      clear hL hA hm hc hW2 hO y0 y1 y2 y3
    all_goals
      clear HJ HRow HQW
      go_wp2_with fail
      go_loopw [5, 21] (fun o i wx => ∃ (k : Nat) (A' : Option Addr) (c' : Nat), k ≤ m ∧ i = .int .i64 (k : Int) ∧ o = .slice A' k c' ∧ Hid (TxSt W2 L k (.slice A' k c') wx)) (fun _ i _ => m - (intOf i).toNat)
      case atStart => exact ⟨0, none, 0, by omega, rfl, rfl, Lib.hid ⟨by rw [List.take_zero]; exact OwnS.nil _ _ _, Q.refl _, by rw [List.take_zero]; intro x hx; cases hx⟩⟩
      case round =>
        obtain ⟨k, A', c', hk, rfl, rfl, HI⟩ := hrel
        rename World => wa
        by_cases hlt : k < m
        · have hd : decide (k < m) = true := by simpa using hlt
          obtain ⟨g, off, E1, m1, e1, E2, m2, e2, rfl, z0, z1, z2, z3, -⟩ := HKd.out k (by rw [HLm.out]; exact hlt)
          replace z0 := HI.out.2.1.cell z0
          replace z1 := HI.out.2.1.cell z1
          replace z2 := HI.out.2.1.cell z2
          replace z3 := HI.out.2.1.cell z3
          obtain ⟨kd, hkd⟩ : ∃ kd, (gK L k).kind = kd := ⟨_, rfl⟩
          obtain ⟨td, htd⟩ : ∃ td, (gK L k).text = td := ⟨_, rfl⟩
          rw [hkd] at z0
          rw [htd] at z1
          have HKD := Lib.hid hkd
          have HTD := Lib.hid htd
          clear hkd htd
          go_upto_region 11 with (fail)
          have hrow3 := heap_alloc_new wa (.cells #[.int .i64 kd, .string ⟨td.toArray⟩, .slice E1 m1 e1, .slice E2 m2 e2] 40)
          obtain ⟨W3, hW3⟩ : ∃ W3, wa.alloc (.cells #[.int .i64 kd, .string ⟨td.toArray⟩, .slice E1 m1 e1, .slice E2 m2 e2] 40) = W3 := ⟨_, rfl⟩
          obtain ⟨M3, hM3⟩ : ∃ M3, wa.heap.size = M3 := ⟨_, rfl⟩
          have hq3 : Q wa W3 := by rw [← hW3]; exact (Q.refl wa).alloc _
          rw [hW3, hM3] at hrow3
          rw [hW3, hM3]
          have x0 : W3.cell? ⟨M3, 0, none⟩ = some (.int .i64 kd) := by rw [cell_of_row _ _ _ _ _ _ hrow3]; rfl
          have x1 : W3.cell? ⟨M3, 1, none⟩ = some (.string ⟨td.toArray⟩) := by rw [cell_of_row _ _ _ _ _ _ hrow3]; rfl
          have HI3 : Hid (TxSt W2 L k (.slice A' k c') W3) := Lib.hid ⟨HI.out.1.q hq3, HI.out.2.1.trans hq3, HI.out.2.2⟩
          clear hW3 hM3 hq3 hrow3 z0 z1 z2 z3 HI
          by_cases hk5 : kd = 5
          · subst hk5
            obtain ⟨us, hus⟩ : ∃ us, (L.take k).map (fun j => strV j.text) = us := ⟨_, rfl⟩
            have hul : us.length = k := by rw [← hus, List.length_map, List.length_take, HLm.out]; omega
            have hown := HI3.out.1
            rw [hus] at hown
            have hsz : W2.heap.size ≤ W3.heap.size := HI3.out.2.1.size
            have HSt : Hid (∀ (v' : Value) (w' : World), OwnS 9 W2 w' v' (us ++ [strV td]) → Below W2.heap.size W3 w' → TxSt W2 L (k + 1) v' w') := Lib.hid (fun v' w' h1 h3 => by
              rw [TxSt, gK_take L k (by rw [HLm.out]; exact hlt)]
              refine ⟨?_, HI3.out.2.1.below h3, fun x hx => ?_⟩
              · rw [List.map_append, hus]
                show OwnS _ _ _ _ (us ++ [strV (gK L k).text])
                rw [HTD.out]; exact h1
              · rcases List.mem_append.1 hx with hx | hx
                · exact HI3.out.2.2 x hx
                · rw [List.mem_singleton.1 hx]; exact HKD.out)
            have HOwn := Lib.hid hown
            have HSz := Lib.hid hsz
            have HUl := Lib.hid hul
            clear hus hown hsz hul
            go_wp2_with (at_builtin; refine wpList_append_one rfl (.tmp 29) (.tmp 32) 23 9 _ 16 oneStr rfl W2 W3 (.slice A' k c') (strV td) us rfl HOwn.out rfl rfl HSz.out (by rw [HUl.out]; unfold maxLen; omega) (by rw [HUl.out]; omega) ?_; intro v' w4 hown4 hb4)
            have hnx := HSt.out v' w4 hown4 hb4
            obtain ⟨A'', c'', hv'⟩ := row_form' hown4
            have hlen : (us ++ [strV td]).length = k + 1 := by rw [List.length_append, HUl.out]; rfl
            rw [hlen] at hv'
            subst hv'
            have HN := Lib.hid hnx
            clear hnx hown4 hb4 hlen
            go_roundw
            case rel => exact ⟨k + 1, A'', c'', by omega, by go_num, rfl, HN⟩
            case measure => simp [intOf]; omega
          · have hkd : (kd != 5) = true := by simpa using hk5
            have hkd2 : (kd == 5) = false := by simpa using hk5
            have HX : Hid (O = none) := Lib.hid (by rw [← HLT.out]; exact listT_no (by rw [HLm.out]; exact hlt) (by rw [HKD.out]; exact hk5))
            clear hk5
            go_wp2_with fail
            refine (errNone_any _).mono ?_
            rintro e w4 ⟨rfl, hq4⟩
            have HQ := Lib.hid (HQ2.out.trans (HI3.out.2.1.trans hq4))
            clear hq4
            go_wp2_with fail
            go_ret2
            rw [HX.out]
            exact ⟨HQ.out, rfl⟩
        · have hd : decide (k < m) = false := by simpa using hlt
          by_cases hk0 : k = 0
          · subst hk0
            have HX : Hid (O = none) := Lib.hid (by
              rw [← HLT.out]
              have : L = [] := List.eq_nil_of_length_eq_zero (by rw [HLm.out]; omega)
              subst this; rfl)
            go_wp2_with fail
            refine (errNone_any _).mono ?_
            rintro e w4 ⟨rfl, hq4⟩
            have HQ := Lib.hid (HQ2.out.trans (HI.out.2.1.trans hq4))
            clear hq4
            go_wp2_with fail
            go_ret2
            rw [HX.out]
            exact ⟨HQ.out, rfl⟩
          · have hkz : ((k : Int) == 0) = false := by simp; omega
            have HR : Hid (TextsP O w (.returned (.tuple #[.slice A' k c', .nilIface])) wa) := Lib.hid (by
              obtain ⟨h1, h2, h3⟩ := HI.out
              rw [List.take_of_length_le (by rw [HLm.out]; omega)] at h1 h3
              have hO : O = some (L.map (·.text)) := by
                rw [← HLT.out]
                exact listT_yes (fun e => by have := HLm.out; rw [e] at this; simp at this; omega) h3
              rw [hO]
              have hkl : k = (L.map (·.text)).length := by rw [List.length_map, HLm.out]; omega
              refine ⟨HQ2.out.trans h2, A', c', by rw [← hkl], ?_⟩
              rw [← hkl, List.map_map]; exact ownsRow_low h1 HQ2.out.size)
            clear HI
            go_wp2_with fail
            go_ret2
            exact HR.out
  · have hk5 : ¬ k = 5 := fun h => hk (.inl h)
    have hk6 : ¬ k = 6 := fun h => hk (.inr h)
    have g5 : (k == 5) = false := by simpa using hk5
    have g6 : (k == 6) = false := by simpa using hk6
    have HX : Hid (textsJ (.mk k t ns ks) = none) := Lib.hid (textsN t ns ks hk5 hk6)
    rw [HX.out]
    clear hk hk5 hk6
    go_enter Tryd.func92, Tryd.ntmps92
    go_upto_region 1 with (fail)
    clear hW hN
    go_wp2_with fail
    refine (errNone_any _).mono ?_
    rintro e w1 ⟨rfl, hq⟩
    have HQ := Lib.hid (HQW.out.trans hq)
    clear hq
    go_wp2_with fail
    go_ret2
    exact ⟨HQ.out, rfl⟩
end Go.Proofs.YtlhhiiemojhjdaaDoor
/- policy.isText, policy.principals. -/
set_option linter.unusedVariables false
set_option linter.unusedSimpArgs false
namespace Go.Proofs.YtlhhiiemojhjdaaDoor
open Go Go.RowKit
/-- What a text was read as, or none. -/
def FineJ (j : JsonD) : Prop := j = zeroJ ∨ ((∃ d, wfJ j d = true) ∧ cntJ j ≤ 8000 ∧ bigJ 32000 j)
structure FineD (k : Int) (ns : List Txt) (ks : List JsonD) : Prop where
  seven : k = 7 → ns.length = ks.length
  names : ns.length ≤ 1000000
  kids : ks.length ≤ 1000000
  short : ∀ i, i < ns.length → (gL ns i).length ≤ 140737488355328
  kid : ∀ i, i < ks.length → FineJ (gK ks i)
theorem FineJ.d {k : Int} {t : Txt} {ns : List Txt} {ks : List JsonD} (h : FineJ (.mk k t ns ks)) : FineD k ns ks := by
  rcases h with h | ⟨⟨d, h1⟩, h2, h3⟩
  · cases h
    exact ⟨(fun h => absurd h (by decide)), (Nat.zero_le _), (Nat.zero_le _), (fun i hi => absurd hi (Nat.not_lt_zero i)), (fun i hi => absurd hi (Nat.not_lt_zero i))⟩
  · rw [bigJ, bigKs_iff] at h3
    have hc : cntKs ks + 1 ≤ 8000 := by rw [cntJ] at h2; exact h2
    have hk := cnt_len ks
    have hn := wf_names h1
    refine ⟨fun h => by subst h; exact wf_obj h1, by omega, by omega, fun i hi => ?_, fun i hi => .inr ⟨wf_kid h1 hi, by have := cnt_gK hi; omega, ?_⟩⟩
    · have := h3.2.1 (gL ns i) (gL_mem ns i hi); omega
    · exact h3.2.2 _ (by rw [gK_get ks i hi]; exact List.getElem_mem hi)
theorem look_mem : ∀ (ns : List Txt) (ks : List JsonD) (x : Txt) (j : JsonD), (ns.zip ks).lookup x = some j → ∃ i, i < ks.length ∧ gK ks i = j
  | [], ks, x, j, h => by simp at h
  | n :: ns, [], x, j, h => by simp at h
  | n :: ns, k :: ks, x, j, h => by
    rw [List.zip_cons_cons, List.lookup] at h
    cases hx : (x == n) with
    | true => rw [hx] at h; injection h with h; exact ⟨0, by simp, h⟩
    | false =>
      rw [hx] at h
      obtain ⟨i, hi, e⟩ := look_mem ns ks x j h
      exact ⟨i + 1, by simp; omega, e⟩
theorem FineJ.look {k : Int} {t : Txt} {ns : List Txt} {ks : List JsonD} (h : FineJ (.mk k t ns ks)) (x : Txt) : FineJ (orJ ((ns.zip ks).lookup x)) := by
  cases hl : (ns.zip ks).lookup x with
  | none => exact .inl rfl
  | some j =>
    obtain ⟨i, hi, e⟩ := look_mem ns ks x j hl
    have := h.d.kid i hi
    rw [e] at this
    exact this
/-- The principals that a value says. -/
def prJ (j : JsonD) : Option (List Txt) :=
  if j.kind = 5 ∧ j.text = [42] then some [[42]]
  else if onlyJ j [nAWS] then textsJ (orJ (getJ j nAWS))
  else none
theorem texts_zero : textsJ zeroJ = none := rfl
theorem texts_or (o : Option JsonD) : textsJ (orJ o) = o.bind textsJ := by
  cases o with
  | none => exact texts_zero
  | some j => rfl
theorem pr_who (o : Option JsonD) : prJ (orJ o) = whoJ o := by
  cases o with
  | none => rfl
  | some j =>
    show prJ j = whoJ (some j)
    unfold prJ whoJ
    simp only [texts_or]
/-- A text row of the call's own. -/
theorem own_new (w0 w : World) (ls : List Txt) (hq : w0.heap.size ≤ w.heap.size) (hl : ls.length ≤ maxLen) : OwnS 9 w0 (w.alloc (.cells (ls.map strV).toArray 9)) (.slice (some ⟨w.heap.size, 0, none⟩) ls.length ls.length) (ls.map strV) :=
  ⟨by simp, .inr ⟨w.heap.size, ls.length, (ls.map strV).toArray, by simp, hq, heap_alloc_new w _, by simp, hl, by simp, by rw [Nat.mul_one, List.take_of_length_le (by simp)]⟩⟩
theorem ns_new (w : World) (ls : List Txt) (hl : ls.length ≤ 1000000) : NsV (w.alloc (.cells (ls.map strV).toArray 9)) (.slice (some ⟨w.heap.size, 0, none⟩) ls.length ls.length) ls := by
  refine ⟨_, _, rfl, Nat.le_refl _, by omega, fun h0 => ⟨w.heap.size, 0, rfl, fun i hi => ?_⟩⟩
  rw [cell_of_row _ _ _ _ _ _ (heap_alloc_new w _), Nat.zero_add]
  simp [strV, gL, List.getD, hi]
theorem isText_none (must : Bool) (sm : List Txt) : isTextJ none must sm = !must := rfl
theorem isText_some (j : JsonD) (must : Bool) (sm : List Txt) : isTextJ (some j) must sm = (decide (j.kind = 5) && (sm.isEmpty || decide (j.text ∈ sm))) := rfl
set_option maxRecDepth 100000 in
theorem isText_any (b : Nat) (l : List (Txt × JsonD)) (x : Txt) (must : Bool) (sm : List Txt) (A : Option Addr) (c : Nat) (w : World) (hm : MapB w b l) (hx : x.length ≤ maxLen) (hs : NsV w (.slice A sm.length c) sm) :
    Calls Tryd.prog 60 #[.map (some b), .string ⟨x.toArray⟩, .bool must, .slice A sm.length c] w fun e w' => e = .returned (.bool (isTextJ (l.lookup x) must sm)) ∧ Q w w' := by
  obtain ⟨B1, n1, d1, B2, n2, d2, hjv, r1, -⟩ := hm.look x hx
  have HS := Lib.hid hs
  obtain ⟨R, hR⟩ : ∃ R, isTextJ (l.lookup x) must sm = R := ⟨_, rfl⟩
  rw [hR]
  obtain ⟨kk, hkk⟩ : ∃ kk, (orJ (l.lookup x)).kind = kk := ⟨_, rfl⟩
  obtain ⟨tt, htt⟩ : ∃ tt, (orJ (l.lookup x)).text = tt := ⟨_, rfl⟩
  rw [hkk, htt] at r1
  cases hl : l.lookup x with
  | none =>
    rw [hl] at r1 hR
    rw [isText_none] at hR
    have HR := Lib.hid hR
    have r1' : (Instr.lookup 94 (.map (some b)) (.string ⟨x.toArray⟩) true).run Tryd.prog w = .ok (.tuple #[.agg #[.int .i64 kk, .string ⟨tt.toArray⟩, .slice B1 n1 d1, .slice B2 n2 d2], .bool false]) w := r1
    clear hs hm hjv hR hkk htt hl hx r1
    cases must with
    | true =>
      go_enter Tryd.func60, Tryd.ntmps60
      go_wp2_with fail
      go_ret
      rw [← HR.out]
      exact ⟨rfl, (Q.refl w).alloc _⟩
    | false =>
      go_enter Tryd.func60, Tryd.ntmps60
      go_wp2_with fail
      go_ret
      rw [← HR.out]
      exact ⟨rfl, (Q.refl w).alloc _⟩
  | some j =>
    rw [hl] at r1 hR hkk htt
    have hkk : j.kind = kk := hkk
    have htt : j.text = tt := htt
    rw [isText_some, hkk, htt] at hR
    have HR := Lib.hid hR
    have r1' : (Instr.lookup 94 (.map (some b)) (.string ⟨x.toArray⟩) true).run Tryd.prog w = .ok (.tuple #[.agg #[.int .i64 kk, .string ⟨tt.toArray⟩, .slice B1 n1 d1, .slice B2 n2 d2], .bool true]) w := r1
    clear hs hm hjv hR hkk htt hl hx r1
    by_cases h5 : kk = 5
    · subst h5
      by_cases h0 : sm = []
      · subst h0
        have HR2 : Hid (true = R) := Lib.hid HR.out
        go_enter Tryd.func60, Tryd.ntmps60
        go_wp2_with fail
        go_ret
        rw [← HR2.out]
        exact ⟨rfl, (Q.refl w).alloc _⟩
      · have hsl : ((sm.length : Int) == 0) = false := by
          have := List.length_pos_iff.2 h0
          simp; omega
        have HR2 : Hid (decide (tt ∈ sm) = R) := Lib.hid (by
          have h := HR.out
          have e : sm.isEmpty = false := by simpa using h0
          rw [e] at h
          simpa using h)
        obtain ⟨r, hr⟩ : ∃ r, decide (tt ∈ sm) = r := ⟨_, rfl⟩
        rw [hr] at HR2
        have HC : Hid (∀ W, Q w W → Calls Tryd.prog 90 #[.slice A sm.length c, .string ⟨tt.toArray⟩] W fun e w' => e = .returned (.bool r) ∧ Q W w') := Lib.hid (fun W hq => by
          have := contains_any sm tt W (.slice A sm.length c) (HS.out.mono (fun _ _ => hq.cell))
          rw [hr] at this; exact this)
        clear HR hr h0
        go_enter Tryd.func60, Tryd.ntmps60
        go_wp2_with fail
        refine (HC.out _ ((Q.refl w).alloc _)).mono ?_
        rintro e w1 ⟨rfl, hq⟩
        have HQ := Lib.hid (((Q.refl w).alloc _).trans hq)
        clear hq
        go_wp2_with fail
        go_ret
        rw [← HR2.out]
        exact ⟨rfl, HQ.out⟩
    · have hk5 : (kk == 5) = false := by simpa using h5
      have HR2 : Hid (false = R) := Lib.hid (by rw [← HR.out]; simp [h5])
      clear HR h5
      go_enter Tryd.func60, Tryd.ntmps60
      go_wp2_with fail
      go_ret
      rw [← HR2.out]
      exact ⟨rfl, (Q.refl w).alloc _⟩
theorem bndS (x : Txt) (h : x.length ≤ 100) : x.length ≤ maxLen := Nat.le_trans h (by decide)
set_option maxRecDepth 100000 in
theorem principals_any (k : Int) (t : Txt) (ns : List Txt) (ks : List JsonD) (A1 A2 : Option Addr) (c1 c2 : Nat) (w : World) (hj : JV w (.mk k t ns ks) (.slice A1 ns.length c1) (.slice A2 ks.length c2)) (hf : FineJ (.mk k t ns ks)) :
    Calls Tryd.prog 91 #[.agg #[.int .i64 k, .string ⟨t.toArray⟩, .slice A1 ns.length c1, .slice A2 ks.length c2]] w (TextsP (prJ (.mk k t ns ks)) w) := by
  have HJ := Lib.hid hj
  have HF := Lib.hid hf
  obtain ⟨W, hW⟩ : ∃ W, w.alloc (.cells #[.int .i64 k, .string ⟨t.toArray⟩, .slice A1 ns.length c1, .slice A2 ks.length c2] 40) = W := ⟨_, rfl⟩
  have hqW : Q w W := by rw [← hW]; exact (Q.refl w).alloc _
  have hrow := heap_alloc_new w (.cells #[.int .i64 k, .string ⟨t.toArray⟩, .slice A1 ns.length c1, .slice A2 ks.length c2] 40)
  obtain ⟨N, hN⟩ : ∃ N, w.heap.size = N := ⟨_, rfl⟩
  rw [hW, hN] at hrow
  have HQW := Lib.hid hqW
  have HRow := Lib.hid hrow
  have y0 : W.cell? ⟨N, 0, none⟩ = some (.int .i64 k) := by rw [cell_of_row _ _ _ _ _ _ hrow]; rfl
  have y1 : W.cell? ⟨N, 1, none⟩ = some (.string ⟨t.toArray⟩) := by rw [cell_of_row _ _ _ _ _ _ hrow]; rfl
  have y2 : W.cell? ⟨N, 2, none⟩ = some (.slice A1 ns.length c1) := by rw [cell_of_row _ _ _ _ _ _ hrow]; rfl
  have y3 : W.cell? ⟨N, 3, none⟩ = some (.slice A2 ks.length c2) := by rw [cell_of_row _ _ _ _ _ _ hrow]; rfl
  clear hj hf hqW hrow
  obtain ⟨O, hO⟩ : ∃ O, prJ (.mk k t ns ks) = O := ⟨_, rfl⟩
  have HO := Lib.hid hO
  rw [hO]
  clear hO
  go_enter Tryd.func91, Tryd.ntmps91
  go_upto_region 1 with (fail)
  clear hW hN
  by_cases hs : k = 5 ∧ t = [42]
  · obtain ⟨rfl, rfl⟩ := hs
    have HX : Hid (O = some [[42]]) := Lib.hid (by rw [← HO.out]; rfl)
    have HR : Hid (TextsP (some [[42]]) w (.returned (.tuple #[.slice (some ⟨W.heap.size, 0, none⟩) 1 1, .nilIface])) (W.alloc (.cells #[.string ⟨#[42]⟩] 9))) := Lib.hid ⟨HQW.out.alloc _, _, 1, rfl, own_new w W [[42]] HQW.out.size (by decide)⟩
    go_wp2_with fail
    go_ret2
    rw [HX.out]
    exact HR.out
  · have hg : (k == 5) = false ∨ (k = 5 ∧ (t == [42]) = false) := by
      by_cases h5 : k = 5
      · right; exact ⟨h5, by simpa using fun h => hs ⟨h5, h⟩⟩
      · left; simpa using h5
    have HX : Hid (O = if onlyJ (.mk k t ns ks) [nAWS] then textsJ (orJ ((ns.zip ks).lookup nAWS)) else none) := Lib.hid (by
      rw [← HO.out]
      show (if k = 5 ∧ t = [42] then _ else _) = _
      rw [if_neg hs]; rfl)
    clear hs
    obtain ⟨W2, hW2⟩ : ∃ W2, W.alloc (.cells #[.string ⟨#[65, 87, 83]⟩] 9) = W2 := ⟨_, rfl⟩
    have hq2 : Q W W2 := by rw [← hW2]; exact (Q.refl W).alloc _
    have hns2 := ns_new W [nAWS] (by decide)
    obtain ⟨M, hM⟩ : ∃ M, W.heap.size = M := ⟨_, rfl⟩
    have hns2' : NsV W2 (.slice (some ⟨M, 0, none⟩) 1 1) [nAWS] := by rw [← hW2, ← hM]; exact hns2
    have HOb : Hid (Calls Tryd.prog 59 #[.agg #[.int .i64 k, .string ⟨t.toArray⟩, .slice A1 ns.length c1, .slice A2 ks.length c2], .slice (some ⟨M, 0, none⟩) 1 1] W2 (ObjP (.mk k t ns ks) [nAWS] W2)) := Lib.hid (object_any k t ns ks A1 A2 c1 c2 [nAWS] (some ⟨M, 0, none⟩) 1 W2 (HJ.out.q (HQW.out.trans hq2)) hns2' HF.out.d.seven HF.out.d.names HF.out.d.short)
    have HQ2 := Lib.hid (HQW.out.trans hq2)
    clear hns2 hns2' hq2
    rcases hg with hg | ⟨h5, hg⟩
    case' inl =>
      go_upto_region 3 with (fail)
    case' inr =>
      subst h5
      go_upto_region 3 with (fail)
    all_goals
      go_wp2_with fail
      refine HOb.out.mono ?_
      rintro e w3 ⟨hq3, hc⟩
      have HQ3 := Lib.hid (HQ2.out.trans hq3)
      clear HOb y0 y1 y2 y3 hW2 hM hq3
      rcases hc with ⟨ho, b, rfl, hm⟩ | ⟨ho, rfl⟩
      · have HX2 : Hid (O = textsJ (orJ ((ns.zip ks).lookup nAWS))) := Lib.hid (by rw [HX.out, if_pos ho])
        obtain ⟨B1, n1, d1, B2, n2, d2, hjv, -, r2⟩ := hm.look nAWS (bndS _ (by decide))
        have hfi := HF.out.look nAWS
        obtain ⟨j2, hj2⟩ : ∃ j2, orJ ((ns.zip ks).lookup nAWS) = j2 := ⟨_, rfl⟩
        have hjv : JV w3 (orJ ((ns.zip ks).lookup nAWS)) (.slice B1 n1 d1) (.slice B2 n2 d2) := hjv
        have r2 : (Instr.lookup 94 (.map (some b)) (.string ⟨#[65, 87, 83]⟩) false).run Tryd.prog w3 = .ok (.agg #[.int .i64 (orJ ((ns.zip ks).lookup nAWS)).kind, .string ⟨(orJ ((ns.zip ks).lookup nAWS)).text.toArray⟩, .slice B1 n1 d1, .slice B2 n2 d2]) w3 := r2
        rw [hj2] at hjv r2 hfi HX2
        obtain ⟨k2, t2, ns2, ks2, A12, c12, A22, c22, rfl, e1, e2⟩ := hjv.full
        cases e1
        cases e2
        simp only [JsonD.kind, JsonD.text] at r2
        have HTx := Lib.hid (texts_any k2 t2 ns2 ks2 B1 B2 d1 d2 w3 hjv hfi.d.kids)
        clear hjv hfi hj2 hm ho HX
        go_wp2_with fail
        refine HTx.out.mono ?_
        rintro e w4 ⟨hq4, hc⟩
        have HQ4 := Lib.hid (HQ3.out.trans hq4)
        rw [← HX2.out] at hc
        cases O with
        | none =>
          have hc : e = _ := hc
          subst hc
          clear hq4
          go_wp2_with fail
          go_ret2
          exact ⟨HQ4.out, rfl⟩
        | some l =>
          obtain ⟨A, c, rfl, hown⟩ := hc
          have HOwn : Hid (OwnS 9 w w4 (.slice A l.length c) (l.map strV)) := Lib.hid (ownsRow_low hown HQ3.out.size)
          clear hq4 hown
          go_wp2_with fail
          go_ret2
          exact ⟨HQ4.out, A, c, rfl, HOwn.out⟩
      · have HX2 : Hid (O = none) := Lib.hid (by rw [HX.out, if_neg (by rw [ho]; decide)])
        clear ho HX
        go_wp2_with fail
        go_ret2
        rw [HX2.out]
        exact ⟨HQ3.out, rfl⟩
end Go.Proofs.YtlhhiiemojhjdaaDoor
