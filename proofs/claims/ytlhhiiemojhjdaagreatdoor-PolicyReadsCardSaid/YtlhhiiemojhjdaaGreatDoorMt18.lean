/- Texts of this proof, laid into one: PoH, PoI. -/
import Derived.Test.YtlhhiiemojhjdaaGreatDoorMt17
set_option linter.unusedVariables false
set_option linter.unusedSimpArgs false
namespace Go.Proofs.YtlhhiiemojhjdaaGreatDoor
open Go Go.RowKit
def TextsP (o : Option (List Txt)) (w : World) (e : Ending) (w' : World) : Prop := Q w w' ∧
  match o with
  | some l => ∃ A c, e = .returned (.tuple #[.slice A l.length c, .nilIface]) ∧ OwnS 9 w w' (.slice A l.length c) (l.map strV)
  | none => e = .returned (.tuple #[.slice none 0 0, .iface 34 (.int .i64 58)])
def KidsV (w : World) (A : Option Addr) (L : List JsonD) : Prop := ∀ i, i < L.length → ∃ g off E1 m1 e1 E2 m2 e2, A = some ⟨g, off, none⟩ ∧
  w.cell? ⟨g, off + i * 4, none⟩ = some (.int .i64 (gK L i).kind) ∧ w.cell? ⟨g, off + i * 4 + 1, none⟩ = some (.string ⟨(gK L i).text.toArray⟩) ∧ w.cell? ⟨g, off + i * 4 + 2, none⟩ = some (.slice E1 m1 e1) ∧ w.cell? ⟨g, off + i * 4 + 3, none⟩ = some (.slice E2 m2 e2) ∧ JV w (gK L i) (.slice E1 m1 e1) (.slice E2 m2 e2)
theorem KidsV.q {w w' : World} {A : Option Addr} {L : List JsonD} (h : KidsV w A L) (hq : Q w w') : KidsV w' A L := fun i hi => by
  obtain ⟨g, off, E1, m1, e1, E2, m2, e2, h1, h2, h3, h4, h5, h6⟩ := h i hi
  exact ⟨g, off, E1, m1, e1, E2, m2, e2, h1, hq.cell h2, hq.cell h3, hq.cell h4, hq.cell h5, h6.q hq⟩
theorem JV.kids {w : World} {k : Int} {t : Txt} {ns : List Txt} {ks : List JsonD} {vn : Value} {A : Option Addr} {n c : Nat} (h : JV w (.mk k t ns ks) vn (.slice A n c)) : KidsV w A ks := by
  obtain ⟨B, c', he, -, -, hk⟩ := h.kid
  cases he
  intro i hi
  obtain ⟨g, off, un, uk, e, z0, z1, z2, z3, zv⟩ := hk i hi
  obtain ⟨E1, m1, e1, E2, m2, e2, rfl, rfl⟩ := zv.form
  exact ⟨g, off, E1, m1, e1, E2, m2, e2, e, z0, z1, z2, z3, zv⟩
theorem kids_one {w W : World} {j : JsonD} {E1 E2 : Option Addr} {m1 e1 m2 e2 M : Nat} {ty : TypeId} (hj : JV w j (.slice E1 m1 e1) (.slice E2 m2 e2)) (hq : Q w W) (hr : W.heap[M]? = some (.cells #[.int .i64 j.kind, .string ⟨j.text.toArray⟩, .slice E1 m1 e1, .slice E2 m2 e2] ty (0, 0))) : KidsV W (some ⟨M, 0, none⟩) [j] := by
  intro i hi
  have hi0 : i = 0 := by simpa using hi
  subst hi0
  have hg : gK [j] 0 = j := rfl
  rw [hg]
  exact ⟨M, 0, E1, m1, e1, E2, m2, e2, rfl, by rw [cell_of_row _ _ _ _ _ _ hr]; rfl, by rw [cell_of_row _ _ _ _ _ _ hr]; rfl, by rw [cell_of_row _ _ _ _ _ _ hr]; rfl, by rw [cell_of_row _ _ _ _ _ _ hr]; rfl, hj.q hq⟩
def listT (L : List JsonD) : Option (List Txt) := if L ≠ [] ∧ L.all (fun k => decide (k.kind = 5)) = true then some (L.map (·.text)) else none
theorem listT_no {L : List JsonD} {k : Nat} (hk : k < L.length) (h : ¬ (gK L k).kind = 5) : listT L = none := by
  unfold listT
  rw [if_neg]
  rintro ⟨_, h2⟩
  rw [List.all_eq_true] at h2
  have hm : gK L k ∈ L := by rw [gK_get L k hk]; exact List.getElem_mem hk
  exact h (of_decide_eq_true (h2 _ hm))
theorem listT_yes {L : List JsonD} (h0 : L ≠ []) (h : ∀ x ∈ L, x.kind = 5) : listT L = some (L.map (·.text)) := by
  unfold listT
  rw [if_pos ⟨h0, by rw [List.all_eq_true]; exact fun x hx => decide_eq_true (h x hx)⟩]
theorem texts5 (t : Txt) (ns : List Txt) (ks : List JsonD) : textsJ (.mk 5 t ns ks) = listT [.mk 5 t ns ks] := rfl
theorem texts6 (t : Txt) (ns : List Txt) (ks : List JsonD) : textsJ (.mk 6 t ns ks) = listT ks := rfl
theorem textsN {k : Int} (t : Txt) (ns : List Txt) (ks : List JsonD) (h5 : ¬ k = 5) (h6 : ¬ k = 6) : textsJ (.mk k t ns ks) = none := by
  show (if k = 5 then _ else if k = 6 then _ else _) = _
  rw [if_neg h5, if_neg h6]
def TxSt (W : World) (L : List JsonD) (k : Nat) (v : Value) (wx : World) : Prop := OwnS 9 W wx v ((L.take k).map fun j => strV j.text) ∧ Q W wx ∧ ∀ x ∈ L.take k, x.kind = 5
set_option maxRecDepth 100000 in
theorem texts_any (k : Int) (t : Txt) (ns : List Txt) (ks : List JsonD) (A1 A2 : Option Addr) (c1 c2 : Nat) (w : World) (hj : JV w (.mk k t ns ks) (.slice A1 ns.length c1) (.slice A2 ks.length c2)) (hb : ks.length ≤ 1000000) :
    Calls Tryz.prog 49 #[.agg #[.int .i64 k, .string ⟨t.toArray⟩, .slice A1 ns.length c1, .slice A2 ks.length c2]] w (TextsP (textsJ (.mk k t ns ks)) w) := by
  have HJ := Lib.hid hj
  obtain ⟨W, hW⟩ : ∃ W, w.alloc (.cells #[.int .i64 k, .string ⟨t.toArray⟩, .slice A1 ns.length c1, .slice A2 ks.length c2] 46) = W := ⟨_, rfl⟩
  have hqW : Q w W := by rw [← hW]; exact (Q.refl w).alloc _
  have hrow := heap_alloc_new w (.cells #[.int .i64 k, .string ⟨t.toArray⟩, .slice A1 ns.length c1, .slice A2 ks.length c2] 46)
  obtain ⟨N, hN⟩ : ∃ N, w.heap.size = N := ⟨_, rfl⟩
  rw [hW, hN] at hrow
  have HQW := Lib.hid hqW
  have HRow := Lib.hid hrow
  have y0 : W.cell? ⟨N, 0, none⟩ = some (.int .i64 k) := by rw [cell_of_row _ _ _ _ _ _ hrow]; rfl
  have y1 : W.cell? ⟨N, 1, none⟩ = some (.string ⟨t.toArray⟩) := by rw [cell_of_row _ _ _ _ _ _ hrow]; rfl
  have y2 : W.cell? ⟨N, 2, none⟩ = some (.slice A1 ns.length c1) := by rw [cell_of_row _ _ _ _ _ _ hrow]; rfl
  have y3 : W.cell? ⟨N, 3, none⟩ = some (.slice A2 ks.length c2) := by rw [cell_of_row _ _ _ _ _ _ hrow]; rfl
  clear hj hqW hrow
  by_cases hk : k = 5 ∨ k = 6
  · obtain ⟨O, hO⟩ : ∃ O, textsJ (.mk k t ns ks) = O := ⟨_, rfl⟩
    rw [hO]
    go_enter Tryz.func49, Tryz.ntmps49
    go_upto_region 1 with (fail)
    clear hW hN
    rcases hk with hk | hk
    case' inl =>
      subst hk
      go_upto_region 8 with (fail)
      have hrow2 := heap_alloc_new W (.cells #[.int .i64 5, .string ⟨t.toArray⟩, .slice A1 ns.length c1, .slice A2 ks.length c2] 46)
      obtain ⟨W2, hW2⟩ : ∃ W2, W.alloc (.cells #[.int .i64 5, .string ⟨t.toArray⟩, .slice A1 ns.length c1, .slice A2 ks.length c2] 46) = W2 := ⟨_, rfl⟩
      obtain ⟨M, hM⟩ : ∃ M, W.heap.size = M := ⟨_, rfl⟩
      have hq2 : Q W W2 := by rw [← hW2]; exact (Q.refl W).alloc _
      rw [hW2, hM] at hrow2
      rw [hW2, hM]
      obtain ⟨L, hL⟩ : ∃ L, L = [JsonD.mk 5 t ns ks] := ⟨_, rfl⟩
      obtain ⟨A, hA⟩ : ∃ A : Option Addr, A = some ⟨M, 0, none⟩ := ⟨_, rfl⟩
      obtain ⟨m, hm⟩ : ∃ m : Nat, m = 1 := ⟨_, rfl⟩
      obtain ⟨c, hc⟩ : ∃ c : Nat, c = 1 := ⟨_, rfl⟩
      have HKd : Hid (KidsV W2 A L) := Lib.hid (by rw [hA, hL]; exact kids_one HJ.out (HQW.out.trans hq2) hrow2)
      have HLm : Hid (L.length = m) := Lib.hid (by rw [hL, hm]; rfl)
      have HLT : Hid (listT L = O) := Lib.hid (by rw [hL, ← texts5]; exact hO)
      have HQ2 := Lib.hid (HQW.out.trans hq2)
      have hml : m ≤ 1000000 := by omega
      have e1 : Value.slice (some ⟨M, 0, none⟩) 1 1 = .slice A m c := by rw [hA, hm, hc]
      rw [e1]
      clear hL hA hm hc e1 hW2 hM hq2 hrow2 hO y0 y1 y2 y3
    case' inr =>
      subst hk
      go_upto_region 8 with (fail)
      obtain ⟨W2, hW2⟩ : ∃ W2, W = W2 := ⟨_, rfl⟩
      obtain ⟨L, hL⟩ : ∃ L, ks = L := ⟨_, rfl⟩
      obtain ⟨A, hA⟩ : ∃ A : Option Addr, A2 = A := ⟨_, rfl⟩
      obtain ⟨m, hm⟩ : ∃ m : Nat, ks.length = m := ⟨_, rfl⟩
      obtain ⟨c, hc⟩ : ∃ c : Nat, c2 = c := ⟨_, rfl⟩
      have HKd : Hid (KidsV W2 A L) := Lib.hid (by rw [← hL, ← hA, ← hW2]; exact HJ.out.kids.q HQW.out)
      have HLm : Hid (L.length = m) := Lib.hid (by rw [← hL, hm])
      have HLT : Hid (listT L = O) := Lib.hid (by rw [← hL, ← texts6 t ns]; exact hO)
      have HQ2 : Hid (Q w W2) := Lib.hid (by rw [← hW2]; exact HQW.out)
      have hml : m ≤ 1000000 := by omega
      rw [hm, hA, hc, hW2]
      clear hL hA hm hc hW2 hO y0 y1 y2 y3
    all_goals
      clear HJ HRow HQW
      go_wp2_with fail
      go_loopw [5, 21] (fun o i wx => ∃ (k : Nat) (A' : Option Addr) (c' : Nat), k ≤ m ∧ i = .int .i64 (k : Int) ∧ o = .slice A' k c' ∧ Hid (TxSt W2 L k (.slice A' k c') wx)) (fun _ i _ => m - (intOf i).toNat)
      case atStart => exact ⟨0, none, 0, by omega, rfl, rfl, Lib.hid ⟨by rw [List.take_zero]; exact OwnS.nil _ _ _, Q.refl _, by rw [List.take_zero]; intro x hx; cases hx⟩⟩
      case round =>
        obtain ⟨k, A', c', hk, rfl, rfl, HI⟩ := hrel
        rename World => wa
        by_cases hlt : k < m
        · have hd : decide (k < m) = true := by simpa using hlt
          obtain ⟨g, off, E1, m1, e1, E2, m2, e2, rfl, z0, z1, z2, z3, -⟩ := HKd.out k (by rw [HLm.out]; exact hlt)
          replace z0 := HI.out.2.1.cell z0
          replace z1 := HI.out.2.1.cell z1
          replace z2 := HI.out.2.1.cell z2
          replace z3 := HI.out.2.1.cell z3
          obtain ⟨kd, hkd⟩ : ∃ kd, (gK L k).kind = kd := ⟨_, rfl⟩
          obtain ⟨td, htd⟩ : ∃ td, (gK L k).text = td := ⟨_, rfl⟩
          rw [hkd] at z0
          rw [htd] at z1
          have HKD := Lib.hid hkd
          have HTD := Lib.hid htd
          clear hkd htd
          go_upto_region 11 with (fail)
          have hrow3 := heap_alloc_new wa (.cells #[.int .i64 kd, .string ⟨td.toArray⟩, .slice E1 m1 e1, .slice E2 m2 e2] 46)
          obtain ⟨W3, hW3⟩ : ∃ W3, wa.alloc (.cells #[.int .i64 kd, .string ⟨td.toArray⟩, .slice E1 m1 e1, .slice E2 m2 e2] 46) = W3 := ⟨_, rfl⟩
          obtain ⟨M3, hM3⟩ : ∃ M3, wa.heap.size = M3 := ⟨_, rfl⟩
          have hq3 : Q wa W3 := by rw [← hW3]; exact (Q.refl wa).alloc _
          rw [hW3, hM3] at hrow3
          rw [hW3, hM3]
          have x0 : W3.cell? ⟨M3, 0, none⟩ = some (.int .i64 kd) := by rw [cell_of_row _ _ _ _ _ _ hrow3]; rfl
          have x1 : W3.cell? ⟨M3, 1, none⟩ = some (.string ⟨td.toArray⟩) := by rw [cell_of_row _ _ _ _ _ _ hrow3]; rfl
          have HI3 : Hid (TxSt W2 L k (.slice A' k c') W3) := Lib.hid ⟨HI.out.1.q hq3, HI.out.2.1.trans hq3, HI.out.2.2⟩
          clear hW3 hM3 hq3 hrow3 z0 z1 z2 z3 HI
          by_cases hk5 : kd = 5
          · subst hk5
            obtain ⟨us, hus⟩ : ∃ us, (L.take k).map (fun j => strV j.text) = us := ⟨_, rfl⟩
            have hul : us.length = k := by rw [← hus, List.length_map, List.length_take, HLm.out]; omega
            have hown := HI3.out.1
            rw [hus] at hown
            have hsz : W2.heap.size ≤ W3.heap.size := HI3.out.2.1.size
            have HSt : Hid (∀ (v' : Value) (w' : World), OwnS 9 W2 w' v' (us ++ [strV td]) → Below W2.heap.size W3 w' → TxSt W2 L (k + 1) v' w') := Lib.hid (fun v' w' h1 h3 => by
              rw [TxSt, gK_take L k (by rw [HLm.out]; exact hlt)]
              refine ⟨?_, HI3.out.2.1.below h3, fun x hx => ?_⟩
              · rw [List.map_append, hus]
                show OwnS _ _ _ _ (us ++ [strV (gK L k).text])
                rw [HTD.out]; exact h1
              · rcases List.mem_append.1 hx with hx | hx
                · exact HI3.out.2.2 x hx
                · rw [List.mem_singleton.1 hx]; exact HKD.out)
            have HOwn := Lib.hid hown
            have HSz := Lib.hid hsz
            have HUl := Lib.hid hul
            clear hus hown hsz hul
            go_wp2_with (at_builtin; refine wpList_append_one rfl (.tmp 29) (.tmp 32) 39 9 _ 16 oneStr rfl W2 W3 (.slice A' k c') (strV td) us rfl HOwn.out rfl rfl HSz.out (by rw [HUl.out]; unfold maxLen; omega) (by rw [HUl.out]; omega) ?_; intro v' w4 hown4 hb4)
            have hnx := HSt.out v' w4 hown4 hb4
            obtain ⟨A'', c'', hv'⟩ := row_form' hown4
            have hlen : (us ++ [strV td]).length = k + 1 := by rw [List.length_append, HUl.out]; rfl
            rw [hlen] at hv'
            subst hv'
            have HN := Lib.hid hnx
            clear hnx hown4 hb4 hlen
            go_roundw
            case rel => exact ⟨k + 1, A'', c'', by omega, by go_num, rfl, HN⟩
            case measure => simp [intOf]; omega
          · have hkd : (kd != 5) = true := by simpa using hk5
            have hkd2 : (kd == 5) = false := by simpa using hk5
            have HX : Hid (O = none) := Lib.hid (by rw [← HLT.out]; exact listT_no (by rw [HLm.out]; exact hlt) (by rw [HKD.out]; exact hk5))
            clear hk5
            go_wp2_with fail
            refine (errNone_any _).mono ?_
            rintro e w4 ⟨rfl, hq4⟩
            have HQ := Lib.hid (HQ2.out.trans (HI3.out.2.1.trans hq4))
            clear hq4
            go_wp2_with fail
            go_ret2
            rw [HX.out]
            exact ⟨HQ.out, rfl⟩
        · have hd : decide (k < m) = false := by simpa using hlt
          by_cases hk0 : k = 0
          · subst hk0
            have HX : Hid (O = none) := Lib.hid (by
              rw [← HLT.out]
              have : L = [] := List.eq_nil_of_length_eq_zero (by rw [HLm.out]; omega)
              subst this; rfl)
            go_wp2_with fail
            refine (errNone_any _).mono ?_
            rintro e w4 ⟨rfl, hq4⟩
            have HQ := Lib.hid (HQ2.out.trans (HI.out.2.1.trans hq4))
            clear hq4
            go_wp2_with fail
            go_ret2
            rw [HX.out]
            exact ⟨HQ.out, rfl⟩
          · have hkz : ((k : Int) == 0) = false := by simp; omega
            have HR : Hid (TextsP O w (.returned (.tuple #[.slice A' k c', .nilIface])) wa) := Lib.hid (by
              obtain ⟨h1, h2, h3⟩ := HI.out
              rw [List.take_of_length_le (by rw [HLm.out]; omega)] at h1 h3
              have hO : O = some (L.map (·.text)) := by
                rw [← HLT.out]
                exact listT_yes (fun e => by have := HLm.out; rw [e] at this; simp at this; omega) h3
              rw [hO]
              have hkl : k = (L.map (·.text)).length := by rw [List.length_map, HLm.out]; omega
              refine ⟨HQ2.out.trans h2, A', c', by rw [← hkl], ?_⟩
              rw [← hkl, List.map_map]; exact ownsRow_low h1 HQ2.out.size)
            clear HI
            go_wp2_with fail
            go_ret2
            exact HR.out
  · have hk5 : ¬ k = 5 := fun h => hk (.inl h)
    have hk6 : ¬ k = 6 := fun h => hk (.inr h)
    have g5 : (k == 5) = false := by simpa using hk5
    have g6 : (k == 6) = false := by simpa using hk6
    have HX : Hid (textsJ (.mk k t ns ks) = none) := Lib.hid (textsN t ns ks hk5 hk6)
    rw [HX.out]
    clear hk hk5 hk6
    go_enter Tryz.func49, Tryz.ntmps49
    go_upto_region 1 with (fail)
    clear hW hN
    go_wp2_with fail
    refine (errNone_any _).mono ?_
    rintro e w1 ⟨rfl, hq⟩
    have HQ := Lib.hid (HQW.out.trans hq)
    clear hq
    go_wp2_with fail
    go_ret2
    exact ⟨HQ.out, rfl⟩
end Go.Proofs.YtlhhiiemojhjdaaGreatDoor
set_option linter.unusedVariables false
set_option linter.unusedSimpArgs false
namespace Go.Proofs.YtlhhiiemojhjdaaGreatDoor
open Go Go.RowKit
def FineJ (j : JsonD) : Prop := j = zeroJ ∨ ((∃ d, wfJ j d = true) ∧ cntJ j ≤ 8000 ∧ bigJ 32000 j)
structure FineD (k : Int) (ns : List Txt) (ks : List JsonD) : Prop where
  seven : k = 7 → ns.length = ks.length
  names : ns.length ≤ 1000000
  kids : ks.length ≤ 1000000
  short : ∀ i, i < ns.length → (gL ns i).length ≤ 140737488355328
  kid : ∀ i, i < ks.length → FineJ (gK ks i)
theorem FineJ.d {k : Int} {t : Txt} {ns : List Txt} {ks : List JsonD} (h : FineJ (.mk k t ns ks)) : FineD k ns ks := by
  rcases h with h | ⟨⟨d, h1⟩, h2, h3⟩
  · cases h
    exact ⟨(fun h => absurd h (by decide)), (Nat.zero_le _), (Nat.zero_le _), (fun i hi => absurd hi (Nat.not_lt_zero i)), (fun i hi => absurd hi (Nat.not_lt_zero i))⟩
  · rw [bigJ, bigKs_iff] at h3
    have hc : cntKs ks + 1 ≤ 8000 := by rw [cntJ] at h2; exact h2
    have hk := cnt_len ks
    have hn := wf_names h1
    refine ⟨fun h => by subst h; exact wf_obj h1, by omega, by omega, fun i hi => ?_, fun i hi => .inr ⟨wf_kid h1 hi, by have := cnt_gK hi; omega, ?_⟩⟩
    · have := h3.2.1 (gL ns i) (gL_mem ns i hi); omega
    · exact h3.2.2 _ (by rw [gK_get ks i hi]; exact List.getElem_mem hi)
theorem look_mem : ∀ (ns : List Txt) (ks : List JsonD) (x : Txt) (j : JsonD), (ns.zip ks).lookup x = some j → ∃ i, i < ks.length ∧ gK ks i = j
  | [], ks, x, j, h => by simp at h
  | n :: ns, [], x, j, h => by simp at h
  | n :: ns, k :: ks, x, j, h => by
    rw [List.zip_cons_cons, List.lookup] at h
    cases hx : (x == n) with
    | true => rw [hx] at h; injection h with h; exact ⟨0, by simp, h⟩
    | false =>
      rw [hx] at h
      obtain ⟨i, hi, e⟩ := look_mem ns ks x j h
      exact ⟨i + 1, by simp; omega, e⟩
theorem FineJ.look {k : Int} {t : Txt} {ns : List Txt} {ks : List JsonD} (h : FineJ (.mk k t ns ks)) (x : Txt) : FineJ (orJ ((ns.zip ks).lookup x)) := by
  cases hl : (ns.zip ks).lookup x with
  | none => exact .inl rfl
  | some j =>
    obtain ⟨i, hi, e⟩ := look_mem ns ks x j hl
    have := h.d.kid i hi
    rw [e] at this
    exact this
def prJ (j : JsonD) : Option (List Txt) :=
  if j.kind = 5 ∧ j.text = [42] then some [[42]]
  else if onlyJ j [nAWS] then textsJ (orJ (getJ j nAWS))
  else none
theorem texts_zero : textsJ zeroJ = none := rfl
theorem texts_or (o : Option JsonD) : textsJ (orJ o) = o.bind textsJ := by
  cases o with
  | none => exact texts_zero
  | some j => rfl
theorem pr_who (o : Option JsonD) : prJ (orJ o) = whoJ o := by
  cases o with
  | none => rfl
  | some j =>
    show prJ j = whoJ (some j)
    unfold prJ whoJ
    simp only [texts_or]
theorem own_new (w0 w : World) (ls : List Txt) (hq : w0.heap.size ≤ w.heap.size) (hl : ls.length ≤ maxLen) : OwnS 9 w0 (w.alloc (.cells (ls.map strV).toArray 9)) (.slice (some ⟨w.heap.size, 0, none⟩) ls.length ls.length) (ls.map strV) :=
  ⟨by simp, .inr ⟨w.heap.size, ls.length, (ls.map strV).toArray, by simp, hq, heap_alloc_new w _, by simp, hl, by simp, by rw [Nat.mul_one, List.take_of_length_le (by simp)]⟩⟩
theorem ns_new (w : World) (ls : List Txt) (hl : ls.length ≤ 1000000) : NsV (w.alloc (.cells (ls.map strV).toArray 9)) (.slice (some ⟨w.heap.size, 0, none⟩) ls.length ls.length) ls := by
  refine ⟨_, _, rfl, Nat.le_refl _, by omega, fun h0 => ⟨w.heap.size, 0, rfl, fun i hi => ?_⟩⟩
  rw [cell_of_row _ _ _ _ _ _ (heap_alloc_new w _), Nat.zero_add]
  simp [strV, gL, List.getD, hi]
theorem isText_none (must : Bool) (sm : List Txt) : isTextJ none must sm = !must := rfl
theorem isText_some (j : JsonD) (must : Bool) (sm : List Txt) : isTextJ (some j) must sm = (decide (j.kind = 5) && (sm.isEmpty || decide (j.text ∈ sm))) := rfl
set_option maxRecDepth 100000 in
theorem isText_any (b : Nat) (l : List (Txt × JsonD)) (x : Txt) (must : Bool) (sm : List Txt) (A : Option Addr) (c : Nat) (w : World) (hm : MapB w b l) (hx : x.length ≤ maxLen) (hs : NsV w (.slice A sm.length c) sm) :
    Calls Tryz.prog 32 #[.map (some b), .string ⟨x.toArray⟩, .bool must, .slice A sm.length c] w fun e w' => e = .returned (.bool (isTextJ (l.lookup x) must sm)) ∧ Q w w' := by
  obtain ⟨B1, n1, d1, B2, n2, d2, hjv, r1, -⟩ := hm.look x hx
  have HS := Lib.hid hs
  obtain ⟨R, hR⟩ : ∃ R, isTextJ (l.lookup x) must sm = R := ⟨_, rfl⟩
  rw [hR]
  obtain ⟨kk, hkk⟩ : ∃ kk, (orJ (l.lookup x)).kind = kk := ⟨_, rfl⟩
  obtain ⟨tt, htt⟩ : ∃ tt, (orJ (l.lookup x)).text = tt := ⟨_, rfl⟩
  rw [hkk, htt] at r1
  cases hl : l.lookup x with
  | none =>
    rw [hl] at r1 hR
    rw [isText_none] at hR
    have HR := Lib.hid hR
    have r1' : (Instr.lookup 71 (.map (some b)) (.string ⟨x.toArray⟩) true).run Tryz.prog w = .ok (.tuple #[.agg #[.int .i64 kk, .string ⟨tt.toArray⟩, .slice B1 n1 d1, .slice B2 n2 d2], .bool false]) w := r1
    clear hs hm hjv hR hkk htt hl hx r1
    cases must with
    | true =>
      go_enter Tryz.func32, Tryz.ntmps32
      go_wp2_with fail
      go_ret
      rw [← HR.out]
      exact ⟨rfl, (Q.refl w).alloc _⟩
    | false =>
      go_enter Tryz.func32, Tryz.ntmps32
      go_wp2_with fail
      go_ret
      rw [← HR.out]
      exact ⟨rfl, (Q.refl w).alloc _⟩
  | some j =>
    rw [hl] at r1 hR hkk htt
    have hkk : j.kind = kk := hkk
    have htt : j.text = tt := htt
    rw [isText_some, hkk, htt] at hR
    have HR := Lib.hid hR
    have r1' : (Instr.lookup 71 (.map (some b)) (.string ⟨x.toArray⟩) true).run Tryz.prog w = .ok (.tuple #[.agg #[.int .i64 kk, .string ⟨tt.toArray⟩, .slice B1 n1 d1, .slice B2 n2 d2], .bool true]) w := r1
    clear hs hm hjv hR hkk htt hl hx r1
    by_cases h5 : kk = 5
    · subst h5
      by_cases h0 : sm = []
      · subst h0
        have HR2 : Hid (true = R) := Lib.hid HR.out
        go_enter Tryz.func32, Tryz.ntmps32
        go_wp2_with fail
        go_ret
        rw [← HR2.out]
        exact ⟨rfl, (Q.refl w).alloc _⟩
      · have hsl : ((sm.length : Int) == 0) = false := by
          have := List.length_pos_iff.2 h0
          simp; omega
        have HR2 : Hid (decide (tt ∈ sm) = R) := Lib.hid (by
          have h := HR.out
          have e : sm.isEmpty = false := by simpa using h0
          rw [e] at h
          simpa using h)
        obtain ⟨r, hr⟩ : ∃ r, decide (tt ∈ sm) = r := ⟨_, rfl⟩
        rw [hr] at HR2
        have HC : Hid (∀ W, Q w W → Calls Tryz.prog 47 #[.slice A sm.length c, .string ⟨tt.toArray⟩] W fun e w' => e = .returned (.bool r) ∧ Q W w') := Lib.hid (fun W hq => by
          have := contains_any sm tt W (.slice A sm.length c) (HS.out.mono (fun _ _ => hq.cell))
          rw [hr] at this; exact this)
        clear HR hr h0
        go_enter Tryz.func32, Tryz.ntmps32
        go_wp2_with fail
        refine (HC.out _ ((Q.refl w).alloc _)).mono ?_
        rintro e w1 ⟨rfl, hq⟩
        have HQ := Lib.hid (((Q.refl w).alloc _).trans hq)
        clear hq
        go_wp2_with fail
        go_ret
        rw [← HR2.out]
        exact ⟨rfl, HQ.out⟩
    · have hk5 : (kk == 5) = false := by simpa using h5
      have HR2 : Hid (false = R) := Lib.hid (by rw [← HR.out]; simp [h5])
      clear HR h5
      go_enter Tryz.func32, Tryz.ntmps32
      go_wp2_with fail
      go_ret
      rw [← HR2.out]
      exact ⟨rfl, (Q.refl w).alloc _⟩
theorem bndS (x : Txt) (h : x.length ≤ 100) : x.length ≤ maxLen := Nat.le_trans h (by decide)
set_option maxRecDepth 100000 in
theorem principals_any (k : Int) (t : Txt) (ns : List Txt) (ks : List JsonD) (A1 A2 : Option Addr) (c1 c2 : Nat) (w : World) (hj : JV w (.mk k t ns ks) (.slice A1 ns.length c1) (.slice A2 ks.length c2)) (hf : FineJ (.mk k t ns ks)) :
    Calls Tryz.prog 48 #[.agg #[.int .i64 k, .string ⟨t.toArray⟩, .slice A1 ns.length c1, .slice A2 ks.length c2]] w (TextsP (prJ (.mk k t ns ks)) w) := by
  have HJ := Lib.hid hj
  have HF := Lib.hid hf
  obtain ⟨W, hW⟩ : ∃ W, w.alloc (.cells #[.int .i64 k, .string ⟨t.toArray⟩, .slice A1 ns.length c1, .slice A2 ks.length c2] 46) = W := ⟨_, rfl⟩
  have hqW : Q w W := by rw [← hW]; exact (Q.refl w).alloc _
  have hrow := heap_alloc_new w (.cells #[.int .i64 k, .string ⟨t.toArray⟩, .slice A1 ns.length c1, .slice A2 ks.length c2] 46)
  obtain ⟨N, hN⟩ : ∃ N, w.heap.size = N := ⟨_, rfl⟩
  rw [hW, hN] at hrow
  have HQW := Lib.hid hqW
  have HRow := Lib.hid hrow
  have y0 : W.cell? ⟨N, 0, none⟩ = some (.int .i64 k) := by rw [cell_of_row _ _ _ _ _ _ hrow]; rfl
  have y1 : W.cell? ⟨N, 1, none⟩ = some (.string ⟨t.toArray⟩) := by rw [cell_of_row _ _ _ _ _ _ hrow]; rfl
  have y2 : W.cell? ⟨N, 2, none⟩ = some (.slice A1 ns.length c1) := by rw [cell_of_row _ _ _ _ _ _ hrow]; rfl
  have y3 : W.cell? ⟨N, 3, none⟩ = some (.slice A2 ks.length c2) := by rw [cell_of_row _ _ _ _ _ _ hrow]; rfl
  clear hj hf hqW hrow
  obtain ⟨O, hO⟩ : ∃ O, prJ (.mk k t ns ks) = O := ⟨_, rfl⟩
  have HO := Lib.hid hO
  rw [hO]
  clear hO
  go_enter Tryz.func48, Tryz.ntmps48
  go_upto_region 1 with (fail)
  clear hW hN
  by_cases hs : k = 5 ∧ t = [42]
  · obtain ⟨rfl, rfl⟩ := hs
    have HX : Hid (O = some [[42]]) := Lib.hid (by rw [← HO.out]; rfl)
    have HR : Hid (TextsP (some [[42]]) w (.returned (.tuple #[.slice (some ⟨W.heap.size, 0, none⟩) 1 1, .nilIface])) (W.alloc (.cells #[.string ⟨#[42]⟩] 9))) := Lib.hid ⟨HQW.out.alloc _, _, 1, rfl, own_new w W [[42]] HQW.out.size (by decide)⟩
    go_wp2_with fail
    go_ret2
    rw [HX.out]
    exact HR.out
  · have hg : (k == 5) = false ∨ (k = 5 ∧ (t == [42]) = false) := by
      by_cases h5 : k = 5
      · right; exact ⟨h5, by simpa using fun h => hs ⟨h5, h⟩⟩
      · left; simpa using h5
    have HX : Hid (O = if onlyJ (.mk k t ns ks) [nAWS] then textsJ (orJ ((ns.zip ks).lookup nAWS)) else none) := Lib.hid (by
      rw [← HO.out]
      show (if k = 5 ∧ t = [42] then _ else _) = _
      rw [if_neg hs]; rfl)
    clear hs
    obtain ⟨W2, hW2⟩ : ∃ W2, W.alloc (.cells #[.string ⟨#[65, 87, 83]⟩] 9) = W2 := ⟨_, rfl⟩
    have hq2 : Q W W2 := by rw [← hW2]; exact (Q.refl W).alloc _
    have hns2 := ns_new W [nAWS] (by decide)
    obtain ⟨M, hM⟩ : ∃ M, W.heap.size = M := ⟨_, rfl⟩
    have hns2' : NsV W2 (.slice (some ⟨M, 0, none⟩) 1 1) [nAWS] := by rw [← hW2, ← hM]; exact hns2
    have HOb : Hid (Calls Tryz.prog 31 #[.agg #[.int .i64 k, .string ⟨t.toArray⟩, .slice A1 ns.length c1, .slice A2 ks.length c2], .slice (some ⟨M, 0, none⟩) 1 1] W2 (ObjP (.mk k t ns ks) [nAWS] W2)) := Lib.hid (object_any k t ns ks A1 A2 c1 c2 [nAWS] (some ⟨M, 0, none⟩) 1 W2 (HJ.out.q (HQW.out.trans hq2)) hns2' HF.out.d.seven HF.out.d.names HF.out.d.short)
    have HQ2 := Lib.hid (HQW.out.trans hq2)
    clear hns2 hns2' hq2
    rcases hg with hg | ⟨h5, hg⟩
    case' inl =>
      go_upto_region 3 with (fail)
    case' inr =>
      subst h5
      go_upto_region 3 with (fail)
    all_goals
      go_wp2_with fail
      refine HOb.out.mono ?_
      rintro e w3 ⟨hq3, hc⟩
      have HQ3 := Lib.hid (HQ2.out.trans hq3)
      clear HOb y0 y1 y2 y3 hW2 hM hq3
      rcases hc with ⟨ho, b, rfl, hm⟩ | ⟨ho, rfl⟩
      · have HX2 : Hid (O = textsJ (orJ ((ns.zip ks).lookup nAWS))) := Lib.hid (by rw [HX.out, if_pos ho])
        obtain ⟨B1, n1, d1, B2, n2, d2, hjv, -, r2⟩ := hm.look nAWS (bndS _ (by decide))
        have hfi := HF.out.look nAWS
        obtain ⟨j2, hj2⟩ : ∃ j2, orJ ((ns.zip ks).lookup nAWS) = j2 := ⟨_, rfl⟩
        have hjv : JV w3 (orJ ((ns.zip ks).lookup nAWS)) (.slice B1 n1 d1) (.slice B2 n2 d2) := hjv
        have r2 : (Instr.lookup 71 (.map (some b)) (.string ⟨#[65, 87, 83]⟩) false).run Tryz.prog w3 = .ok (.agg #[.int .i64 (orJ ((ns.zip ks).lookup nAWS)).kind, .string ⟨(orJ ((ns.zip ks).lookup nAWS)).text.toArray⟩, .slice B1 n1 d1, .slice B2 n2 d2]) w3 := r2
        rw [hj2] at hjv r2 hfi HX2
        obtain ⟨k2, t2, ns2, ks2, A12, c12, A22, c22, rfl, e1, e2⟩ := hjv.full
        cases e1
        cases e2
        simp only [JsonD.kind, JsonD.text] at r2
        have HTx := Lib.hid (texts_any k2 t2 ns2 ks2 B1 B2 d1 d2 w3 hjv hfi.d.kids)
        clear hjv hfi hj2 hm ho HX
        go_wp2_with fail
        refine HTx.out.mono ?_
        rintro e w4 ⟨hq4, hc⟩
        have HQ4 := Lib.hid (HQ3.out.trans hq4)
        rw [← HX2.out] at hc
        cases O with
        | none =>
          have hc : e = _ := hc
          subst hc
          clear hq4
          go_wp2_with fail
          go_ret2
          exact ⟨HQ4.out, rfl⟩
        | some l =>
          obtain ⟨A, c, rfl, hown⟩ := hc
          have HOwn : Hid (OwnS 9 w w4 (.slice A l.length c) (l.map strV)) := Lib.hid (ownsRow_low hown HQ3.out.size)
          clear hq4 hown
          go_wp2_with fail
          go_ret2
          exact ⟨HQ4.out, A, c, rfl, HOwn.out⟩
      · have HX2 : Hid (O = none) := Lib.hid (by rw [HX.out, if_neg (by rw [ho]; decide)])
        clear ho HX
        go_wp2_with fail
        go_ret2
        rw [HX2.out]
        exact ⟨HQ3.out, rfl⟩
end Go.Proofs.YtlhhiiemojhjdaaGreatDoor
