/- Texts of this proof, laid into one: PoE, KcH, KcI, KcJ. -/
import Derived.Test.YtlhhiiemojhjdaaDoorMp15
import Derived.Lib.JoinLaws
/- errors.Join of errors that say: no policy. -/
set_option linter.unusedVariables false
set_option linter.unusedSimpArgs false
namespace Go.Proofs.YtlhhiiemojhjdaaDoor
open Go Go.RowKit
/-- An error, or none. -/
def erV (b : Bool) : Value := if b then .iface 41 (.int .i64 58) else .nilIface
def cntB (l : List Bool) : Nat := (l.filter id).length
theorem cnt_take {l : List Bool} {k : Nat} (h : k < l.length) : cntB (l.take (k + 1)) = cntB (l.take k) + (if l.getD k false then 1 else 0) := by
  unfold cntB
  rw [List.take_succ_eq_append_getElem h, List.filter_append, List.length_append]
  have : l.getD k false = l[k] := by simp [List.getD, h]
  rw [this]
  cases l[k] <;> simp
theorem cnt_le (l : List Bool) : cntB l ≤ l.length := List.length_filter_le _ _
theorem cnt_any (l : List Bool) : l.any id = decide (0 < cntB l) := by
  unfold cntB
  induction l with
  | nil => rfl
  | cons a l ih =>
    cases a
    · rw [List.any_cons, ih]; simp
    · simp
theorem info_err : (Tryd.prog.info? 32).map (fun i => (i.zero, i.size, i.bytes)) = some (some .nilIface, 1, 16) := by kernel_rfl
def JoinP (bs : List Bool) (w : World) (e : Ending) (w' : World) : Prop := Q w w' ∧ ((bs.any id = false ∧ e = .returned .nilIface) ∨ (bs.any id = true ∧ ∃ b, e = .returned (.iface 140 (.pointer (some ⟨b, 0, none⟩))) ∧ JoinE w' b))
theorem eql_nil_err (b : Bool) (w : World) : (binOp .eql 32 (erV b) .nilIface).run Tryd.prog w = .ok (.bool (!b)) w := by
  cases b
  · kernel_rfl
  · kernel_rfl
/-- The join so far: what stands in its block. -/
def JnSt (w0 : World) (b n : Nat) (v : Value) (wx : World) : Prop := wx.heap[b]? = some (.cells #[v] 142 (0, 0)) ∧ wx.ownsRow w0.heap.size 32 1 v n (List.replicate n (erV true)) ∧ Q w0 wx
theorem JnSt.next {w0 wx w' : World} {b n : Nat} {v v' : Value} (h : JnSt w0 b n v wx) (hg : wx.grownBy w' v.ownBlock) (ho : w'.ownsRow w0.heap.size 32 1 v' (n + 1) (List.replicate n (erV true) ++ [erV true])) (hb : w0.heap.size ≤ b) : JnSt w0 b (n + 1) v' (w'.setCell ⟨b, 0, none⟩ v') ∧ w'.heap[b]? = some (.cells #[v] 142 (0, 0)) := by
  obtain ⟨h1, h2, h3⟩ := h
  have hne : ∀ g, v.ownBlock = some g → g ≠ b := by
    intro g hg e
    subst e
    rcases h2.2 with ⟨hv, _⟩ | ⟨g', cap, cur, hv, _, hh, _⟩
    · rw [hv] at hg; cases hg
    · have : g' = g := by rw [hv] at hg; simpa [Value.ownBlock] using hg
      subst this
      rw [h1] at hh; injection hh with hh; injection hh with _ hh _; cases hh
  have hb' : w'.heap[b]? = some (.cells #[v] 142 (0, 0)) := by
    rw [hg.block b (lt_of_heap h1) ?_]; exact h1
    intro e
    exact hne b e.symm rfl
  have hq : Q w0 w' := h3.grown hg (by exact h3.size) (fun k hk => by
    rcases h2.2 with ⟨hv, _⟩ | ⟨g', cap, cur, hv, h, _⟩
    · rw [hv] at hk; cases hk
    · have : g' = k := by rw [hv] at hk; simpa [Value.ownBlock] using hk
      subst this; exact h)
  refine ⟨⟨?_, ?_, hq.setNew (by show w0.heap.size ≤ b; exact hb) _⟩, hb'⟩
  · rw [heap_setCell_any _ b 0 _ _ _ _ hb']; rfl
  · rw [List.replicate_succ']
    refine ownsRow_frame ho (fun k hk hs => ?_)
    unfold World.setCell
    simp only [Array.getElem?_modify]
    rw [if_neg]
    intro e
    have e : b = k := e
    subst e
    rcases ho.2 with ⟨hv, _⟩ | ⟨g', cap, cur, hv, _, hh, _⟩
    · rw [hv] at hk; cases hk
    · have : g' = b := by rw [hv] at hk; simpa [Value.ownBlock] using hk
      subst this
      rw [hb'] at hh; injection hh with hh; injection hh with _ hh _; cases hh
theorem JnSt.join {w0 wx : World} {b n : Nat} {v : Value} (h : JnSt w0 b n v wx) (h0 : 0 < n) (h3 : n ≤ 3) : JoinE wx b := by
  obtain ⟨h1, h2, _⟩ := h
  rcases h2.2 with ⟨_, hn⟩ | ⟨g, cap, cur, rfl, _, hh, hn, hm, hcs, ht⟩
  · omega
  · refine ⟨g, n, cap, h0, h3, hn, Nat.le_trans hm (by decide), h1, fun i hi => ?_⟩
    rw [cell_of_row _ _ _ _ _ _ hh, ← Array.getElem?_toList]
    have : (cur.toList.take (n * 1))[i]? = some (erV true) := by rw [ht]; simp [hi]
    rw [List.getElem?_take, if_pos (by omega)] at this
    exact this
theorem JnSt.new (w0 wa : World) (N : Nat) (hq : Q w0 wa) (hN : N ≤ 3) : JnSt w0 (wa.heap.size + 1) 0 (.slice (some ⟨wa.heap.size, 0, none⟩) 0 N) ((wa.alloc (.cells (madeCells #[.nilIface] N) 32)).alloc (.cells #[.slice (some ⟨wa.heap.size, 0, none⟩) 0 N] 142)) := by
  have h1 := heap_alloc_new (wa.alloc (.cells (madeCells #[.nilIface] N) 32)) (.cells #[.slice (some ⟨wa.heap.size, 0, none⟩) 0 N] 142)
  have h2 := heap_alloc_new wa (.cells (madeCells #[.nilIface] N) 32)
  have hs : (wa.alloc (.cells (madeCells #[.nilIface] N) 32)).heap.size = wa.heap.size + 1 := by simp
  rw [hs] at h1
  refine ⟨h1, ⟨by simp, .inr ⟨wa.heap.size, N, madeCells #[.nilIface] N, rfl, hq.size, ((Q.refl _).alloc _).block h2, Nat.zero_le _, by unfold maxLen; omega, by rw [size_madeCells]; omega, by simp⟩⟩, (hq.alloc _).alloc _⟩
set_option maxRecDepth 100000 in
theorem Join_any (bs : List Bool) (g c : Nat) (w : World) (hm : bs.length ≤ 3) (hc : bs.length ≤ c) (hc2 : c ≤ 140737488355328) (hx : ∀ k, k < bs.length → w.cell? ⟨g, k, none⟩ = some (erV (bs.getD k false))) :
    Calls Tryd.prog 93 #[.slice (some ⟨g, 0, none⟩) bs.length c] w (JoinP bs w) := by
  have HX := Lib.hid hx
  have HC := Lib.hid hc2
  obtain ⟨m, hml⟩ : ∃ m, bs.length = m := ⟨_, rfl⟩
  have HML := Lib.hid hml
  rw [hml] at hm hc ⊢
  have HCE := Lib.hid (cnt_le bs)
  clear hx hml hc2
  go_enter Tryd.func93, Tryd.ntmps93
  go_wp2_with fail
  go_loopw [3, 11] (fun n i wx => ∃ k N : Nat, k ≤ m ∧ N ≤ k ∧ n = .int .i64 (N : Int) ∧ i = .int .i64 (k : Int) ∧ Hid (cntB (bs.take k) = N ∧ Q w wx)) (fun _ i _ => m - (intOf i).toNat)
  case atStart => exact ⟨0, 0, by omega, by omega, rfl, rfl, Lib.hid ⟨rfl, Q.refl w⟩⟩
  case round =>
    obtain ⟨k, N, hk, hN, rfl, rfl, HI⟩ := hrel
    rename World => wa
    by_cases hlt : k < m
    · have hd : decide (k < m) = true := by simpa using hlt
      have x0 := HI.out.2.cell (HX.out k (by rw [HML.out]; exact hlt))
      have hct := cnt_take (l := bs) (k := k) (by rw [HML.out]; exact hlt)
      rw [HI.out.1] at hct
      obtain ⟨r, hr⟩ : ∃ r, bs.getD k false = r := ⟨_, rfl⟩
      rw [hr] at x0 hct
      cases r with
      | true =>
        have HN : Hid (cntB (bs.take (k + 1)) = N + 1 ∧ Q w wa) := Lib.hid ⟨by simpa using hct, HI.out.2⟩
        simp only [erV, if_true] at x0
        clear hr hct HI
        go_wp2_with fail
        go_roundw
        case rel => exact ⟨k + 1, N + 1, by omega, by omega, by go_num, by go_num, HN⟩
        case measure => simp [intOf]; omega
      | false =>
        have HN : Hid (cntB (bs.take (k + 1)) = N ∧ Q w wa) := Lib.hid ⟨by simpa using hct, HI.out.2⟩
        have x0' : wa.cell? ⟨g, k, none⟩ = some .nilIface := x0
        clear hr hct HI x0
        go_wp2_with fail
        go_roundw
        case rel => exact ⟨k + 1, N, by omega, by omega, rfl, by go_num, HN⟩
        case measure => simp [intOf]; omega
    · have hd : decide (k < m) = false := by simpa using hlt
      have hkm : k = m := by omega
      have HCN : Hid (cntB bs = N) := Lib.hid (by have := HI.out.1; rw [List.take_of_length_le (by rw [HML.out]; omega)] at this; exact this)
      have HQ := Lib.hid HI.out.2
      clear HI hkm
      by_cases h0 : N = 0
      · subst h0
        have HR : Hid (JoinP bs w (.returned .nilIface) wa) := Lib.hid ⟨HQ.out, .inl ⟨by rw [cnt_any, HCN.out]; rfl, rfl⟩⟩
        go_wp2_with fail
        go_ret
        exact HR.out
      · have hN0 : (((N : Int)) == 0) = false := by simp; omega
        have hN0' : ¬ ((N : Int) = 0) := by omega
        have hmk := run_make_room 139 32 .nilIface 16 Tryd.underlying139 info_err rfl .i64 .i64 N (by omega) (by omega) wa (P := Tryd.prog)
        go_wp2_with fail
        have HS0 := Lib.hid (JnSt.new w wa N HQ.out (by omega))
        have HB : Hid (w.heap.size ≤ wa.heap.size + 1) := Lib.hid (by have := HQ.out.size; omega)
        obtain ⟨W, hW⟩ : ∃ W, ((wa.alloc (.cells (madeCells #[.nilIface] N) 32)).alloc (.cells #[.slice (some ⟨wa.heap.size, 0, none⟩) 0 N] 142)) = W := ⟨_, rfl⟩
        obtain ⟨B, hB⟩ : ∃ B, wa.heap.size + 1 = B := ⟨_, rfl⟩
        rw [hW, hB] at HS0
        rw [hB] at HB
        rw [hW, hB]
        clear hW hB hmk
        obtain ⟨ti, hi, hz0, hz1, hz2⟩ := info_parts info_err
        go_loopw [28] (fun i wx => ∃ k v, k ≤ m ∧ i = .int .i64 ((k : Nat) : Int) ∧ Hid (JnSt w B (cntB (bs.take k)) v wx)) (fun i _ => m - (intOf i).toNat)
        case atStart => exact ⟨0, _, by omega, rfl, HS0⟩
        case round =>
          obtain ⟨k, v, hk, rfl, HI⟩ := hrel
          rename World => wb
          by_cases hlt : k < m
          · have hd : decide (k < m) = true := by simpa using hlt
            have x0 := HI.out.2.2.cell (HX.out k (by rw [HML.out]; exact hlt))
            have hct := cnt_take (l := bs) (k := k) (by rw [HML.out]; exact hlt)
            obtain ⟨r, hr⟩ : ∃ r, bs.getD k false = r := ⟨_, rfl⟩
            rw [hr] at x0 hct
            cases r with
            | false =>
              have HN : Hid (JnSt w B (cntB (bs.take (k + 1))) v wb) := Lib.hid (by rw [hct]; exact HI.out)
              have x0' : wb.cell? ⟨g, k, none⟩ = some .nilIface := x0
              clear hr hct HI x0
              go_wp2_with fail
              go_roundw
              case rel => exact ⟨k + 1, v, by omega, by go_num, HN⟩
              case measure => simp [intOf]; omega
            | true =>
              simp only [erV, if_true] at x0
              have HCT := Lib.hid hct
              obtain ⟨A, cp, hv⟩ := row_form' HI.out.2.1
              obtain ⟨n, hn⟩ : ∃ n, cntB (bs.take k) = n := ⟨_, rfl⟩
              rw [hn] at HI hv HCT
              have hnm : n ≤ 3 := by rw [← hn]; exact Nat.le_trans (cnt_le _) (by rw [List.length_take]; omega)
              subst hv
              have y0 : wb.cell? ⟨B, 0, none⟩ = some (.slice A n cp) := by rw [cell_of_row _ _ _ _ _ _ HI.out.1]; rfl
              clear hr hct hn
              have hct2 : cntB (bs.take (k + 1)) = n + 1 := by simpa using HCT.out
              have HCT2 := Lib.hid hct2
              clear HCT hct2
              have HNw : Hid (∀ (j : Nat) u, [erV true][j]? = some u → (wb.alloc (.cells #[.iface 41 (.int .i64 58)] 32)).cell? ((⟨wb.heap.size, 0, none⟩ : Addr).add j) = some u) := Lib.hid (fun j u hj => by
                rcases j with _ | j
                · simp at hj; subst hj
                  show World.cell? _ ⟨wb.heap.size, 0, none⟩ = _
                  rw [cell_of_row _ _ _ _ _ _ (heap_alloc_new wb _)]; rfl
                · simp at hj)
              have HBs : Hid (w.heap.size ≤ (wb.alloc (.cells #[.iface 41 (.int .i64 58)] 32)).heap.size) := Lib.hid (by have := HI.out.2.2.size; simp; omega)
              have HI2 : Hid (JnSt w B n (.slice A n cp) (wb.alloc (.cells #[.iface 41 (.int .i64 58)] 32))) := Lib.hid ⟨((Q.refl wb).alloc _).block HI.out.1, World.ownsRow.alloc HI.out.2.1 _, HI.out.2.2.alloc _⟩
              go_upto_region 15 with (fail)
              go_wp2_with (at_builtin; refine wpList_append_own (w := wb.alloc (.cells #[.iface 41 (.int .i64 58)] 32)) rfl (.tmp 38) (.tmp 40) 139 rfl w.heap.size 32 ti .nilIface 1 16 Tryd.underlying139 hi hz0 hz1 hz2 rfl (by decide) (.slice A n cp) n (List.replicate n (erV true)) rfl HI2.out.2.1 ⟨wb.heap.size, 0, none⟩ 1 1 [erV true] rfl rfl HNw.out (by simp [erV, Value.oneCell']) (by unfold maxLen; omega) (by omega) HBs.out ?_)
              intro v' w' hown hgrow _
              have hnx := HI2.out.next hgrow hown HB.out
              have y1 : w'.cell? ⟨B, 0, none⟩ = some (.slice A n cp) := by rw [cell_of_row _ _ _ _ _ _ hnx.2]; rfl
              have f1 := frozen_of_row w' B 0 _ _ hnx.2
              have HN : Hid (JnSt w B (cntB (bs.take (k + 1))) v' (w'.setCell ⟨B, 0, none⟩ v')) := Lib.hid (by rw [HCT2.out]; exact hnx.1)
              obtain ⟨A', c', hv'⟩ := row_form' hown
              clear hnx hown hgrow HI2 HBs HNw HI y0
              subst hv'
              go_wp2_with fail
              go_roundw
              case rel => exact ⟨k + 1, _, by omega, by go_num, HN⟩
              case measure => simp [intOf]; omega
          · have hd : decide (k < m) = false := by simpa using hlt
            have hkm : k = m := by omega
            have HR : Hid (JoinP bs w (.returned (.iface 140 (.pointer (some ⟨B, 0, none⟩)))) wb) := Lib.hid (by
              have h := HI.out
              rw [List.take_of_length_le (by rw [HML.out]; omega), HCN.out] at h
              exact ⟨h.2.2, .inr ⟨by rw [cnt_any, HCN.out]; simp; omega, B, rfl, h.join (by omega) (by omega)⟩⟩)
            clear HI hkm
            go_wp2_with fail
            go_ret
            exact HR.out
end Go.Proofs.YtlhhiiemojhjdaaDoor
/- json.twin: what a round does. -/
set_option linter.unusedVariables false
set_option linter.unusedSimpArgs false
namespace Go.Proofs.YtlhhiiemojhjdaaDoor
open Go Go.RowKit
/-- So many kids are in memory of their own. -/
structure TwS (k : Int) (t : Txt) (ns : List Txt) (ks : List JsonD) (w : World) (B : Nat) (un : Value) (g cap i : Nat) (dn rest : List Value) (W : World) : Prop where
  q : Q w W
  sz : w.heap.size = B
  box : W.heap[B]? = some (.cells (cellJ (.mk k t ns ks) un (.slice (some ⟨g, 0, none⟩) ks.length cap)).toArray 40 (0, 0))
  res : W.heap[B + 1]? = some (.cells zeroC.toArray 40 (0, 0))
  nrow : W.ownsRow (B + 2) 9 1 un ns.length (ns.map strV)
  lo : B + 2 ≤ g
  cap1 : ks.length ≤ cap
  cap2 : cap ≤ maxLen
  row : ∃ cur, W.heap[g]? = some (.cells cur 40 (0, 0)) ∧ cur.size = cap * 4 ∧ cur.toList.take (ks.length * 4) = dn ++ rest
  dlen : dn.length = i * 4
  rlen : rest.length = (ks.length - i) * 4
  kids : JOK W (fun b => un.ownBlock = some b ∨ b = g) (ks.take i) (B + 2) W.heap.size dn
  jk : JK w (ks.drop i) rest
theorem gK_dropJ (ks : List JsonD) (i : Nat) (h : i < ks.length) : ks.drop i = gK ks i :: ks.drop (i + 1) := by
  rw [gK_get ks i h]; exact List.drop_eq_getElem_cons h
theorem rlen_next {n i : Nat} {rest a b : List Value} (h : rest.length = (n - i) * 4) (hr : rest = a ++ b) (ha : a.length = 4) (hi : i < n) : b.length = (n - (i + 1)) * 4 := by
  rw [hr, List.length_append, ha] at h
  omega
theorem take_mid {n i : Nat} {a b : List Value} {c : List Value} (ha : a.length = i * 4) (hb : b.length = 4) (hi : i < n) : List.take (n * 4) (a ++ b ++ c) = a ++ b ++ c.take ((n - (i + 1)) * 4) := by
  have hl : (a ++ b).length = i * 4 + 4 := by rw [List.length_append, ha, hb]
  rw [List.take_append, List.take_of_length_le (by rw [hl]; omega), hl]
  congr 2
  omega
theorem TwS.next {k : Int} {t : Txt} {ns : List Txt} {ks : List JsonD} {w : World} {B : Nat} {un : Value} {g cap i : Nat} {dn rest : List Value} {W X : World} {l : Nat} {vn vk xn xk : Value} {rest2 : List Value} (h : TwS k t ns ks w B un g cap i dn rest W) (hi : i < ks.length)
    (hr : rest = cellJ (gK ks i) vn vk ++ rest2) (hq : Q W X) (hl : W.heap.size ≤ l) (hj : JO X (gK ks i) l X.heap.size xn xk) (hk2 : JK w (ks.drop (i + 1)) rest2) :
    TwS k t ns ks w B un g cap (i + 1) (dn ++ cellJ (gK ks i) xn xk) rest2 (X.setCells g (i * 4) (cellJ (gK ks i) xn xk)) := by
  obtain ⟨cur, c1, c2, c3⟩ := h.row
  have c1x := hq.block c1
  have hgl := lt_of_heap c1
  have hlo := h.lo
  have hgb := setCells_gb g (cellJ (gK ks i) xn xk) (i * 4) X
  have hvs : (cellJ (gK ks i) xn xk).length = 4 := jsonC_len _ _ _ _
  have hv2 : (cellJ (gK ks i) vn vk).length = 4 := jsonC_len _ _ _ _
  have hcap := h.cap1
  have hcells := heap_setCells g 40 (0, 0) (cellJ (gK ks i) xn xk) (i * 4) X cur c1x (by rw [hvs, c2]; omega)
  have hf : ∀ b, b < X.heap.size → b ≠ g → (X.setCells g (i * 4) (cellJ (gK ks i) xn xk)).heap[b]? = X.heap[b]? := fun b h1 h2 => hgb.block b h1 (by simpa using Ne.symm h2 |> fun e => fun e' => h2 e')
  have hbl := lt_of_heap h.box
  have hrl := lt_of_heap h.res
  have hsx := hq.size
  have hsf := hgb.size
  have hnb : ∀ b, un.ownBlock = some b → B + 2 ≤ b ∧ b < W.heap.size := fun b e => ownsRow_base h.nrow e
  have hng : ∀ b, un.ownBlock = some b → b ≠ g := fun b e e2 => by
    subst e2
    rcases h.nrow.2 with ⟨e3, _⟩ | ⟨g1, cp, cu, e3, _, e4, _⟩
    · rw [e3] at e; cases e
    · rw [e3] at e
      simp [Value.ownBlock] at e
      subst e
      rw [c1] at e4
      injection e4 with e4
      injection e4 with _ e4 _
      exact absurd e4 (by decide)
  refine ⟨?_, h.sz, ?_, ?_, ?_, h.lo, h.cap1, h.cap2, ⟨_, hcells, ?_, ?_⟩, ?_, ?_, ?_, hk2⟩
  · have hws := h.sz
    exact (h.q.trans hq).below (Below.grown (Below.refl _ _) hgb (by have := h.q.size; omega) (fun b hb => by simp at hb; omega))
  · rw [hf B (by omega) (by omega)]; exact hq.block h.box
  · rw [hf (B + 1) (by omega) (by omega)]; exact hq.block h.res
  · exact ownsRow_frame (ownsRow_frame h.nrow (fun b e h1 => Below.block hq b h1)) (fun b e h1 => hf b h1 (hng b e))
  · simp [hvs]; omega
  · have e1 : cur.toList.take (i * 4) = dn := by
      have := congrArg (List.take (i * 4)) c3
      rw [List.take_take, Nat.min_eq_left (by omega), List.take_left' h.dlen] at this
      exact this
    have e2 : (cur.toList.drop (i * 4 + 4)).take ((ks.length - (i + 1)) * 4) = rest2 := by
      have := congrArg (List.drop (i * 4 + 4)) c3
      rw [List.drop_take, hr, ← List.append_assoc, List.drop_left' (by rw [List.length_append, h.dlen, hv2])] at this
      rw [← this]; congr 1; omega
    show List.take (ks.length * 4) (cur.toList.take (i * 4) ++ cellJ (gK ks i) xn xk ++ cur.toList.drop (i * 4 + (cellJ (gK ks i) xn xk).length)) = dn ++ cellJ (gK ks i) xn xk ++ rest2
    rw [e1, hvs, ← e2]
    exact take_mid h.dlen hvs hi
  · rw [List.length_append, h.dlen, hvs, Nat.add_mul]
  · exact rlen_next h.rlen hr hv2 hi
  · rw [gK_take ks i hi]
    have hk1 : JOK X (fun b => un.ownBlock = some b ∨ b = g) (ks.take i) (B + 2) W.heap.size dn := JOK.frame _ _ _ _ _ (fun b _ _ h3 => Below.block hq b h3) h.kids
    have hk3 : JOK (X.setCells g (i * 4) (cellJ (gK ks i) xn xk)) (fun b => un.ownBlock = some b ∨ b = g) (ks.take i) (B + 2) W.heap.size dn := JOK.frameX (fun b _ _ hx h3 => hf b h3 (fun e => hx (.inr e))) hk1
    have hj3 : JO (X.setCells g (i * 4) (cellJ (gK ks i) xn xk)) (gK ks i) l X.heap.size xn xk := JO.frame _ _ _ _ _ (fun b h1 _ h3 => hf b h3 (by omega)) hj
    refine JOK.snoc hj3 hsf (fun b hb => ?_) (hk3.widen (Nat.le_refl _) hl (fun b hb => .inl hb)) (by have := h.q.size; omega)
    left
    rcases hb with hb | hb
    · have := (hnb b hb).2; omega
    · omega
theorem TwS.done {k : Int} {t : Txt} {ns : List Txt} {ks : List JsonD} {w : World} {B : Nat} {un : Value} {g cap : Nat} {dn rest : List Value} {W : World} (h : TwS k t ns ks w B un g cap ks.length dn rest W) : JO W (.mk k t ns ks) (B + 2) W.heap.size un (.slice (some ⟨g, 0, none⟩) ks.length cap) := by
  obtain ⟨cur, c1, c2, c3⟩ := h.row
  have hr : rest = [] := List.eq_nil_of_length_eq_zero (by rw [h.rlen]; omega)
  subst hr
  have hk := h.kids
  rw [List.take_length] at hk
  rw [List.append_nil] at c3
  have hgl := lt_of_heap c1
  have hlo := h.lo
  rw [JO]
  refine ⟨by omega, h.nrow, fun b hb => (ownsRow_base h.nrow hb).2, fun b hb => by simp [Value.ownBlock] at hb; omega, dn, ⟨by rw [h.dlen], .inr ⟨g, cap, cur, rfl, h.lo, c1, h.cap1, h.cap2, c2, c3⟩⟩, hk.widen (Nat.le_refl _) (Nat.le_refl _) (fun b hb => .inl (by
    rcases hb with hb | hb
    · exact .inl hb
    · simp [Value.ownBlock] at hb; exact .inr hb.symm))⟩
end Go.Proofs.YtlhhiiemojhjdaaDoor
/- json.twin. -/
set_option linter.unusedVariables false
set_option linter.unusedSimpArgs false
namespace Go.Proofs.YtlhhiiemojhjdaaDoor
open Go Go.RowKit
def TwinP (j : JsonD) (w : World) (e : Ending) (w' : World) : Prop := ∃ un uk, e = .returned (.agg (cellJ j un uk).toArray) ∧ JO w' j w.heap.size w'.heap.size un uk ∧ Q w w'
theorem wf_names {k : Int} {t : Txt} {ns : List Txt} {ks : List JsonD} {d : Nat} (h : wfJ (.mk k t ns ks) d = true) : ns.length ≤ ks.length := by
  by_cases h0 : ns = []
  · rw [h0]; simp
  · rw [wfJ] at h
    by_cases h1 : k = 1 ∨ k = 2 ∨ k = 3
    · rw [if_pos h1] at h; simp [h0] at h
    · rw [if_neg h1] at h
      by_cases h4 : k = 4
      · rw [if_pos h4] at h; simp [h0] at h
      · rw [if_neg h4] at h
        by_cases h5 : k = 5
        · rw [if_pos h5] at h; simp [h0] at h
        · rw [if_neg h5] at h
          by_cases h6 : k = 6
          · rw [if_pos h6] at h; simp [h0] at h
          · rw [if_neg h6] at h
            by_cases h7 : k = 7
            · rw [if_pos h7] at h
              simp only [Bool.and_eq_true, decide_eq_true_eq] at h
              omega
            · rw [if_neg h7] at h; cases h
theorem wf_kid {k : Int} {t : Txt} {ns : List Txt} {ks : List JsonD} {d : Nat} (h : wfJ (.mk k t ns ks) d = true) {i : Nat} (hi : i < ks.length) : ∃ d', wfJ (gK ks i) d' = true := by
  have hne : ks ≠ [] := fun e => by rw [e] at hi; cases hi
  have key : wfKs ks (d - 1) = true := by
    rw [wfJ] at h
    by_cases h1 : k = 1 ∨ k = 2 ∨ k = 3
    · rw [if_pos h1] at h; simp [hne] at h
    · rw [if_neg h1] at h
      by_cases h4 : k = 4
      · rw [if_pos h4] at h; simp [hne] at h
      · rw [if_neg h4] at h
        by_cases h5 : k = 5
        · rw [if_pos h5] at h; simp [hne] at h
        · rw [if_neg h5] at h
          by_cases h6 : k = 6
          · rw [if_pos h6] at h; simp only [Bool.and_eq_true] at h; exact h.2
          · rw [if_neg h6] at h
            by_cases h7 : k = 7
            · rw [if_pos h7] at h; simp only [Bool.and_eq_true] at h; exact h.2
            · rw [if_neg h7] at h; cases h
  rw [gK_get ks i hi]
  exact ⟨_, wfKs_mem key _ (List.getElem_mem hi)⟩
theorem cnt_len (ks : List JsonD) : ks.length ≤ cntKs ks := by
  induction ks with
  | nil => simp
  | cons j r ih => rw [cntKs]; have := cnt_pos j; simp; omega
/-- What stays while a kid is copied. -/
def SCp (B Kb : Nat) (vk : Value) (cs : List Value) (W : World) : Prop := W.cell? ⟨B, 3, none⟩ = some vk ∧ W.heap[Kb]? = some (.cells cs.toArray 40 (0, 0))
def TwinKids (ks : List JsonD) : Prop := ∀ i, i < ks.length → ∀ W vn vk, JV W (gK ks i) vn vk → Calls Tryd.prog 51 #[.agg (cellJ (gK ks i) vn vk).toArray] W (TwinP (gK ks i) W)
/-- Both rows are in memory of their own. -/
structure TwB (k : Int) (t : Txt) (ns : List Txt) (ks : List JsonD) (w : World) (B : Nat) (un uk : Value) (cells : List Value) (W : World) : Prop where
  q : Q w W
  sz : w.heap.size = B
  box : W.heap[B]? = some (.cells (cellJ (.mk k t ns ks) un uk).toArray 40 (0, 0))
  res : W.heap[B + 1]? = some (.cells zeroC.toArray 40 (0, 0))
  nrow : W.ownsRow (B + 2) 9 1 un ns.length (ns.map strV)
  krow : W.ownsRow (B + 2) 40 4 uk ks.length cells
theorem two_clones {k : Int} {t : Txt} {ns : List Txt} {ks : List JsonD} {w W2 W3 W4 : World} {B : Nat} {v1 v2 un uk : Value} {cells : List Value} (hB : w.heap.size = B) (e1 : W2.heap[B]? = some (.cells (cellJ (.mk k t ns ks) v1 v2).toArray 40 (0, 0)))
    (e2 : W2.heap[B + 1]? = some (.cells zeroC.toArray 40 (0, 0))) (q2 : Q w W2) (s2 : W2.heap.size = B + 2) (q3 : Q W2 W3) (hn : W3.ownsRow W2.heap.size 9 1 un ns.length (ns.map strV))
    (q4 : Q (W3.setCell ⟨B, 2, none⟩ un) W4) (hk : W4.ownsRow (W3.setCell ⟨B, 2, none⟩ un).heap.size 40 4 uk ks.length cells) : TwB k t ns ks w B un uk cells (W4.setCell ⟨B, 3, none⟩ uk) := by
  have a1 := q3.block e1
  have a2 : (W3.setCell ⟨B, 2, none⟩ un).heap[B]? = some (.cells (cellJ (.mk k t ns ks) un v2).toArray 40 (0, 0)) := heap_setCell_any W3 B 2 _ _ _ un a1
  have a3 := q4.block a2
  have a4 : (W4.setCell ⟨B, 3, none⟩ uk).heap[B]? = some (.cells (cellJ (.mk k t ns ks) un uk).toArray 40 (0, 0)) := heap_setCell_any W4 B 3 _ _ _ uk a3
  have b2 : (W3.setCell ⟨B, 2, none⟩ un).heap[B + 1]? = some (.cells zeroC.toArray 40 (0, 0)) := by rw [heap_setCell_other _ ⟨B, 2, none⟩ (B + 1) un (by simp)]; exact q3.block e2
  have s3 := q3.size
  have sx : (W3.setCell ⟨B, 2, none⟩ un).heap.size = W3.heap.size := by simp
  have s4 := q4.size
  have f2 : ∀ b, b ≠ B → (W3.setCell ⟨B, 2, none⟩ un).heap[b]? = W3.heap[b]? := fun b h => heap_setCell_other _ ⟨B, 2, none⟩ b un h
  have f4 : ∀ b, b ≠ B → (W4.setCell ⟨B, 3, none⟩ uk).heap[b]? = W4.heap[b]? := fun b h => heap_setCell_other _ ⟨B, 3, none⟩ b uk h
  refine ⟨?_, hB, a4, ?_, ?_, ?_⟩
  · have g : GX [B] w (W4.setCell ⟨B, 3, none⟩ uk) := (((GX.q (q2.trans q3)).set (by simp) 2 un).trans (GX.q q4)).set (by simp) 3 uk
    exact GX.toQ g (Q.refl w) (fun b hb => by simp at hb; omega)
  · rw [f4 (B + 1) (by omega)]; exact q4.block b2
  · have hnb : ∀ b, un.ownBlock = some b → B + 2 ≤ b ∧ b < W3.heap.size := fun b e => by have := ownsRow_base hn e; omega
    rw [s2] at hn
    exact ownsRow_frame (ownsRow_frame (ownsRow_frame hn (fun b e _ => f2 b (by have := hnb b e; omega))) (fun b e h1 => Below.block q4 b h1)) (fun b e _ => f4 b (by have := hnb b e; omega))
  · have hkb : ∀ b, uk.ownBlock = some b → B + 2 ≤ b := fun b e => by have := ownsRow_base hk e; omega
    exact ownsRow_low (ownsRow_frame hk (fun b e _ => f4 b (by have := hkb b e; omega))) (by omega)
theorem TwB.done {k : Int} {t : Txt} {ns : List Txt} {w W : World} {B : Nat} {un uk : Value} {cells : List Value} (h : TwB k t ns [] w B un uk cells W) : JO W (.mk k t ns []) (B + 2) W.heap.size un uk := by
  have hc : cells = [] := List.eq_nil_of_length_eq_zero (by have := h.krow.1; simpa using this)
  subst hc
  have hl := lt_of_heap h.res
  rw [JO]
  exact ⟨by omega, h.nrow, fun b hb => (ownsRow_base h.nrow hb).2, fun b hb => (ownsRow_base h.krow hb).2, [], h.krow, by rw [JOK]⟩
theorem TwB.start {k : Int} {t : Txt} {ns : List Txt} {ks : List JsonD} {w W : World} {B : Nat} {un uk : Value} {cells : List Value} (h : TwB k t ns ks w B un uk cells W) (hne : 0 < ks.length) (hjk : JK w ks cells) : ∃ g cap, uk = .slice (some ⟨g, 0, none⟩) ks.length cap ∧ TwS k t ns ks w B un g cap 0 [] cells W := by
  have hl := h.krow.1
  rcases h.krow.2 with ⟨_, h0⟩ | ⟨g, cap, cur, e, hb, h1, h2, h3, h4, h5⟩
  · omega
  · subst e
    refine ⟨g, cap, rfl, h.q, h.sz, h.box, h.res, h.nrow, hb, h2, h3, ⟨cur, h1, h4, ?_⟩, by simp, by rw [hl]; simp, by rw [List.take_zero, JOK], by rw [List.drop_zero]; exact hjk⟩
    rw [List.nil_append]; exact h5
theorem TwS.at {k : Int} {t : Txt} {ns : List Txt} {ks : List JsonD} {w : World} {B : Nat} {un : Value} {g cap i : Nat} {dn rest : List Value} {W : World} (h : TwS k t ns ks w B un g cap i dn rest W) (hi : i < ks.length) :
    ∃ vn vk rest2, rest = cellJ (gK ks i) vn vk ++ rest2 ∧ JK w (ks.drop (i + 1)) rest2 ∧ JV w (gK ks i) vn vk ∧ W.rangeAt g (i * 4) (cellJ (gK ks i) vn vk) ∧ W.there g (i * 4) 4 := by
  have hjk := h.jk
  rw [gK_dropJ ks i hi, JK] at hjk
  obtain ⟨vn, vk, rest2, e, h1, h2⟩ := hjk
  obtain ⟨cur, c1, c2, c3⟩ := h.row
  have hcap := h.cap1
  have hv2 : (cellJ (gK ks i) vn vk).length = 4 := jsonC_len _ _ _ _
  refine ⟨vn, vk, rest2, e, h2, h1, ?_, there_row c1 (by omega)⟩
  intro j u hu
  have hj : j < 4 := by have := (List.getElem?_eq_some_iff.1 hu).1; rw [hv2] at this; exact this
  rw [cell_of_row _ _ _ _ _ _ c1]
  have c4 := congrArg (fun l : List Value => l[i * 4 + j]?) c3
  simp only [e] at c4
  rw [List.getElem?_take, if_pos (by omega), List.getElem?_append_right (by rw [h.dlen]; omega), h.dlen, Nat.add_sub_cancel_left, List.getElem?_append_left (by rw [hv2]; exact hj), hu] at c4
  simpa using c4
def TwI (k : Int) (t : Txt) (ns : List Txt) (ks : List JsonD) (w : World) (B : Nat) (un uk : Value) (i : Nat) (W : World) : Prop := (ks = [] ∧ ∃ cells, TwB k t ns ks w B un uk cells W) ∨ ∃ g cap dn rest, uk = .slice (some ⟨g, 0, none⟩) ks.length cap ∧ TwS k t ns ks w B un g cap i dn rest W
theorem TwI.start {k : Int} {t : Txt} {ns : List Txt} {ks : List JsonD} {w W : World} {B : Nat} {un uk : Value} {cells : List Value} (h : TwB k t ns ks w B un uk cells W) (hjk : JK w ks cells) : TwI k t ns ks w B un uk 0 W := by
  by_cases h0 : ks = []
  · exact .inl ⟨h0, _, h⟩
  · obtain ⟨g, cap, e, h1⟩ := h.start (List.length_pos_iff.2 h0) hjk
    exact .inr ⟨g, cap, _, _, e, h1⟩
structure TwF (k : Int) (t : Txt) (ns : List Txt) (ks : List JsonD) (w : World) (B : Nat) (un uk : Value) (W : World) : Prop where
  q : Q w W
  sz : w.heap.size = B
  box : W.heap[B]? = some (.cells (cellJ (.mk k t ns ks) un uk).toArray 40 (0, 0))
  res : W.heap[B + 1]? = some (.cells zeroC.toArray 40 (0, 0))
  jo : JO W (.mk k t ns ks) (B + 2) W.heap.size un uk
theorem TwI.fin {k : Int} {t : Txt} {ns : List Txt} {ks : List JsonD} {w W : World} {B : Nat} {un uk : Value} (h : TwI k t ns ks w B un uk ks.length W) : TwF k t ns ks w B un uk W := by
  rcases h with ⟨h0, cells, h⟩ | ⟨g, cap, dn, rest, e, h⟩
  · subst h0
    exact ⟨h.q, h.sz, h.box, h.res, h.done⟩
  · subst e
    exact ⟨h.q, h.sz, h.box, h.res, h.done⟩
theorem TwI.go {k : Int} {t : Txt} {ns : List Txt} {ks : List JsonD} {w W : World} {B i : Nat} {un uk : Value} (h : TwI k t ns ks w B un uk i W) (hi : i < ks.length) : ∃ g cap dn rest, uk = .slice (some ⟨g, 0, none⟩) ks.length cap ∧ TwS k t ns ks w B un g cap i dn rest W := by
  rcases h with ⟨h0, _⟩ | h
  · rw [h0] at hi; cases hi
  · exact h
set_option maxRecDepth 100000 in
theorem twin_step (k : Int) (t : Txt) (ns : List Txt) (ks : List JsonD) (hns : ns.length ≤ 8000) (hks : ks.length ≤ 8000) (IH : TwinKids ks) (w : World) (vn vk : Value) (h : JV w (.mk k t ns ks) vn vk) :
    Calls Tryd.prog 51 #[.agg (cellJ (.mk k t ns ks) vn vk).toArray] w (TwinP (.mk k t ns ks) w) := by
  obtain ⟨A2, c2n, cells, e2, hjk, hcl, hnone, hcc⟩ := h.cells
  have hnv : NsV w vn ns := by rw [JV] at h; exact h.1
  have HCN := Lib.hid (fun W (hq : Q w W) => clone_names ns W vn (hnv.mono (fun _ _ => hq.cell)) (by omega))
  have HCK := Lib.hid (fun W (hq : Q w W) => clone_kids ks W A2 c2n cells (by omega) hcl hnone (fun ad e j u hu => hq.cell (hcc ad e j u hu)) hjk.one)
  have HJK := Lib.hid hjk
  have HCL := Lib.hid hcl
  have HIH := Lib.hid IH
  subst e2
  obtain ⟨A1, c1n, rfl, _⟩ := hnv.at
  clear h hnv hjk hcl hnone hcc IH
  go_enter Tryd.func51, Tryd.ntmps51
  go_upto_region 1 with (fail)
  have e1 := heap_alloc_new w (.cells (cellJ (.mk k t ns ks) (.slice A1 ns.length c1n) (.slice A2 ks.length c2n)).toArray 40)
  have q1 : Q w (w.alloc (.cells (cellJ (.mk k t ns ks) (.slice A1 ns.length c1n) (.slice A2 ks.length c2n)).toArray 40)) := (Q.refl w).alloc _
  have s1 : (w.alloc (.cells (cellJ (.mk k t ns ks) (.slice A1 ns.length c1n) (.slice A2 ks.length c2n)).toArray 40)).heap.size = w.heap.size + 1 := by simp
  obtain ⟨W1, hW1⟩ : ∃ W1, w.alloc (.cells (cellJ (.mk k t ns ks) (.slice A1 ns.length c1n) (.slice A2 ks.length c2n)).toArray 40) = W1 := ⟨_, rfl⟩
  rw [hW1] at e1 q1 s1
  rw [hW1]
  have e2 := heap_alloc_new W1 (.cells zeroC.toArray 40)
  have q2 : Q W1 (W1.alloc (.cells zeroC.toArray 40)) := (Q.refl W1).alloc _
  have s2 : (W1.alloc (.cells zeroC.toArray 40)).heap.size = w.heap.size + 2 := by simp [s1]
  rw [s1] at e2
  obtain ⟨W2, hW2⟩ : ∃ W2, W1.alloc (.cells zeroC.toArray 40) = W2 := ⟨_, rfl⟩
  rw [hW2] at e2 q2 s2
  have hW2' : W1.alloc (.cells #[.int .i64 0, .string ⟨#[]⟩, .slice none 0 0, .slice none 0 0] 40) = W2 := hW2
  rw [hW2']
  obtain ⟨B, hB⟩ : ∃ B, w.heap.size = B := ⟨_, rfl⟩
  have e1 := q2.block e1
  rw [hB] at e1 e2 s2
  rw [hB]
  have HB := Lib.hid hB
  have HE1 := Lib.hid e1
  have HE2 := Lib.hid e2
  have HQ2 := Lib.hid (q1.trans q2)
  have HS2 := Lib.hid s2
  clear e1 e2 q1 q2 s1 s2 hW1 hW2 hW2' hB
  have cn : W2.cell? ⟨B, 2, none⟩ = some (.slice A1 ns.length c1n) := by rw [cell_of_row _ _ _ _ _ _ HE1.out]; rfl
  go_wp2_with fail
  refine (HCN.out _ HQ2.out).mono ?_
  rintro e W3 ⟨un, rfl, hn3, hq3, A3, c3, rfl⟩
  have HN3 := Lib.hid hn3
  have HQ3 := Lib.hid hq3
  have HE13 := Lib.hid (hq3.block HE1.out)
  have HE23 := Lib.hid (hq3.block HE2.out)
  clear hn3 hq3 cn
  have cn : W3.cell? ⟨B, 2, none⟩ = some (.slice A1 ns.length c1n) := by rw [cell_of_row _ _ _ _ _ _ HE13.out]; rfl
  have fn := frozen_of_row W3 B 2 _ _ HE13.out
  have ck0 : W3.cell? ⟨B, 3, none⟩ = some (.slice A2 ks.length c2n) := by rw [cell_of_row _ _ _ _ _ _ HE13.out]; rfl
  go_upto_region 2 with (fail)
  have HCK3 := Lib.hid (HCK.out (W3.setCell ⟨B, 2, none⟩ (.slice A3 ns.length c3)) (by
    have g : GX [B] w (W3.setCell ⟨B, 2, none⟩ (.slice A3 ns.length c3)) := (GX.q (HQ2.out.trans HQ3.out)).set (by simp) 2 _
    exact GX.toQ g (Q.refl w) (fun b hb => by simp at hb; have := HB.out; omega)))
  have ck : (W3.setCell ⟨B, 2, none⟩ (.slice A3 ns.length c3)).cell? ⟨B, 3, none⟩ = some (.slice A2 ks.length c2n) := 
    (World.cell?_setCell_other _ _ _ _ (by simp)).trans ck0
  obtain ⟨X3, hX3⟩ : ∃ X3, W3.setCell ⟨B, 2, none⟩ (.slice A3 ns.length c3) = X3 := ⟨_, rfl⟩
  have HX3 := Lib.hid hX3
  rw [hX3] at HCK3 ck
  rw [hX3]
  clear hX3 cn fn ck0
  go_wp2_with fail
  refine HCK3.out.mono ?_
  rintro e W4 ⟨uk, rfl, hn4, hq4, A4, c4, rfl⟩
  have HT : Hid (TwB k t ns ks w B (.slice A3 ns.length c3) (.slice A4 ks.length c4) cells (W4.setCell ⟨B, 3, none⟩ (.slice A4 ks.length c4))) := Lib.hid (two_clones HB.out HE1.out HE2.out HQ2.out HS2.out HQ3.out HN3.out (by rw [HX3.out]; exact hq4) (by rw [HX3.out]; exact hn4))
  have hb4 : X3.heap[B]? = some (.cells (cellJ (.mk k t ns ks) (.slice A3 ns.length c3) (.slice A2 ks.length c2n)).toArray 40 (0, 0)) := by
    rw [← HX3.out]; exact heap_setCell_any W3 B 2 _ _ _ _ HE13.out
  have HB4 := Lib.hid (hq4.block hb4)
  have cn : W4.cell? ⟨B, 3, none⟩ = some (.slice A2 ks.length c2n) := by rw [cell_of_row _ _ _ _ _ _ HB4.out]; rfl
  have fn := frozen_of_row W4 B 3 _ _ HB4.out
  clear hn4 hq4 hb4 ck
  go_upto_region 3 with (fail)
  obtain ⟨X4, hX4⟩ : ∃ X4, W4.setCell ⟨B, 3, none⟩ (.slice A4 ks.length c4) = X4 := ⟨_, rfl⟩
  rw [hX4] at HT
  rw [hX4]
  clear hX4 cn fn
  have ck : X4.cell? ⟨B, 3, none⟩ = some (.slice A4 ks.length c4) := by rw [cell_of_row _ _ _ _ _ _ HT.out.box]; rfl
  have HI0 := Lib.hid (TwI.start HT.out HJK.out)
  obtain ⟨un, hun⟩ : ∃ v : Value, Value.slice A3 ns.length c3 = v := ⟨_, rfl⟩
  rw [hun] at HI0
  clear hun
  go_upto_region 4 with (fail)
  go_loopw [16] (fun i wx => ∃ n : Nat, n ≤ ks.length ∧ i = .int .i64 n ∧ Hid (TwI k t ns ks w B un (.slice A4 ks.length c4) n wx)) (fun i _ => ks.length - (intOf i).toNat)
  case atStart => exact ⟨0, by omega, rfl, HI0⟩
  case round =>
    obtain ⟨i, hil, rfl, HI⟩ := hrel
    rename World => wa
    by_cases hlt : i < ks.length
    · have hd : decide (i < ks.length) = true := by simpa using hlt
      obtain ⟨g, cap, dn, rest, e, hs⟩ := HI.out.go hlt
      injection e with e1 _ e2
      subst e1 e2
      obtain ⟨vn', vk', rest2, hr, hjk2, hjv, hrg, hth⟩ := hs.at hlt
      have HS := Lib.hid hs
      have HR := Lib.hid hr
      have HJ2 := Lib.hid hjk2
      have HJv := Lib.hid hjv
      have HRg := Lib.hid hrg
      have HTh := Lib.hid hth
      have HIn := Lib.hid (info_sz (gK ks i) vn' vk')
      clear hs hr hjk2 hjv hrg hth
      go_upto_region 5 with (fail)
      iterate 7 go_step
      refine wpList_load_mid rfl 40 (.tmp 19) rfl g (i * 4) rfl (cellJ (gK ks i) vn' vk') _ HRg.out Tryd.underlying40 rfl HIn.out ?_
      simp only [Act.put, List.setIfInBounds_toArray, List.set_cons_succ, List.set_cons_zero]
      have HOne := Lib.hid (cellJ_one (j := gK ks i) (jv_slices HJv.out).1 (jv_slices HJv.out).2)
      go_upto_region 6 with (refine wpList_store_row rfl 40 (.tmp 4) (.tmp 20) rfl wa.heap.size (cellJ (gK ks i) vn' vk').toArray rfl rfl 40 _ (heap_alloc_new wa _) HIn.out rfl HOne.out ?_)
      simp only [Act.put]
      have HB3 : Hid (((wa.alloc (.cells #[.int .i64 0, .string ⟨#[]⟩, .slice none 0 0, .slice none 0 0] 40)).setRow wa.heap.size (cellJ (gK ks i) vn' vk').toArray).heap[wa.heap.size]? = some (.cells (cellJ (gK ks i) vn' vk').toArray 40 (0, 0))) := Lib.hid (setRow_at (heap_alloc_new wa _) _)
      have HQ3 : Hid (Q wa ((wa.alloc (.cells #[.int .i64 0, .string ⟨#[]⟩, .slice none 0 0, .slice none 0 0] 40)).setRow wa.heap.size (cellJ (gK ks i) vn' vk').toArray)) := Lib.hid (((Q.refl wa).alloc _).setRow (Nat.le_refl _) _)
      obtain ⟨N3, hN3⟩ : ∃ N3, wa.heap.size = N3 := ⟨_, rfl⟩
      obtain ⟨W5, hW5⟩ : ∃ W5, (wa.alloc (.cells #[.int .i64 0, .string ⟨#[]⟩, .slice none 0 0, .slice none 0 0] 40)).setRow N3 (cellJ (gK ks i) vn' vk').toArray = W5 := ⟨_, rfl⟩
      rw [hN3, hW5] at HB3 HQ3
      rw [hN3, hW5]
      have HNg : Hid (g ≠ N3) := Lib.hid (by obtain ⟨cur, c1, _⟩ := HS.out.row; have := lt_of_heap c1; omega)
      clear hN3 hW5
      have HS6 : Hid (SCp B N3 (.slice (some ⟨g, 0, none⟩) ks.length c4) (cellJ (gK ks i) vn' vk') W5) := Lib.hid ⟨by rw [cell_of_row _ _ _ _ _ _ (HQ3.out.block HS.out.box)]; rfl, HB3.out⟩
      have k0 : ∀ m : SWA (SCp B N3 (.slice (some ⟨g, 0, none⟩) ks.length c4) (cellJ (gK ks i) vn' vk')), m.val.cell? ⟨B, 3, none⟩ = some (.slice (some ⟨g, 0, none⟩) ks.length c4) := fun m => m.property.1
      haveI hne : Nonempty (SWA (SCp B N3 (.slice (some ⟨g, 0, none⟩) ks.length c4) (cellJ (gK ks i) vn' vk'))) := ⟨⟨W5, HS6.out⟩⟩
      have HCl := Lib.hid (HIH.out i hlt W5.drew vn' vk' (HJv.out.q (HS.out.q.trans HQ3.out).drew))
      refine wp_plan_A (SCp B N3 (.slice (some ⟨g, 0, none⟩) ks.length c4) (cellJ (gK ks i) vn' vk')) HS6.out [([0, 1, 2, 3], [4]), ([5], [6])] (by kernel_rfl) (by kernel_rfl) (fun c a d v w h => by cases d <;> exact h) ?_
      simp only [wpPlan, wpListK, List.map_cons, List.map_nil, Array.getD_eq_getD_getElem?, List.getElem?_toArray, List.getElem?_cons_succ, List.getElem?_cons_zero, Option.getD_some, Act.put, List.setIfInBounds_toArray, List.set_cons_succ, List.set_cons_zero]
      iterate 3 (go_big_quiet_step (fail))
      refine wpQuiet_load_row rfl 40 (.tmp 4) rfl N3 rfl 40 (cellJ (gK ks i) vn' vk').toArray (0, 0) _ (fun W hW => by obtain ⟨m, rfl⟩ := hW; exact m.property.2) Tryd.underlying40 rfl HIn.out ?_
      simp only [Act.put, List.setIfInBounds_toArray, List.set_cons_succ, List.set_cons_zero]
      refine wpQuiet_nil ?_
      intro K hK
      have HQ5 := Lib.hid HQ3.out.drew
      clear HQ3 HB3
      go_wp2_with fail
      refine HCl.out.mono ?_
      rintro e W6 ⟨xn, xk, rfl, hj6, hq6⟩
      have hS6 : SCp B N3 (.slice (some ⟨g, 0, none⟩) ks.length c4) (cellJ (gK ks i) vn' vk') W6 := ⟨hq6.cell HS6.out.1, hq6.block HS6.out.2⟩
      have HX := Lib.hid (TwS.next HS.out hlt HR.out (HQ5.out.trans hq6) HQ5.out.size hj6 HJ2.out)
      have HLt6 : Hid (B < W6.heap.size) := Lib.hid (lt_of_heap ((HQ5.out.trans hq6).block HS.out.box))
      have HIn6 := Lib.hid (info_sz (gK ks i) xn xk)
      have HOne6 := Lib.hid (cellJ_one (j := gK ks i) (jo_form hj6).1 (jo_form hj6).2)
      have HTh6 : Hid (W6.there g (i * 4) (cellJ (gK ks i) xn xk).toArray.size) := Lib.hid (by
        obtain ⟨cur, c1, c2, _⟩ := HS.out.row
        have := HS.out.cap1
        exact there_row ((HQ5.out.trans hq6).block c1) (by show _ + (jsonC _ _ xn xk).toArray.size ≤ _; simp [jsonC]; omega))
      clear hq6 hj6 HQ5 hne
      go_wp2_with fail
      refine hK.out _ _ ⟨⟨W6, hS6⟩, rfl⟩ ?_
      clear hK K
      haveI hne : Nonempty (SWA (SCp B N3 (.slice (some ⟨g, 0, none⟩) ks.length c4) (cellJ (gK ks i) vn' vk'))) := ⟨⟨W6, hS6⟩⟩
      (repeat (go_big_quiet_step (fail)))
      refine wpQuiet_nil ?_
      intro K hK
      have hS7 : SCp B N3 (.slice (some ⟨g, 0, none⟩) ks.length c4) (cellJ (gK ks i) vn' vk') (W6.setCells g (i * 4) (cellJ (gK ks i) xn xk)) := by
        have hlo := HS.out.lo
        have hg7 := setCells_gb g (cellJ (gK ks i) xn xk) (i * 4) W6
        refine ⟨?_, ?_⟩
        · have h1 := hS6.1
          unfold World.cell? at h1 ⊢
          rw [hg7.block B HLt6.out (by simp; omega)]; exact h1
        · rw [hg7.block N3 (lt_of_heap hS6.2) (by simpa using Ne.symm HNg.out)]; exact hS6.2
      refine wpList_store_mid rfl 40 (.tmp 26) (.tmp 25) rfl g (i * 4) (cellJ (gK ks i) xn xk).toArray rfl rfl HTh6.out HIn6.out HOne6.out ?_
      show K _ _
      refine hK.out _ _ ⟨⟨_, hS7⟩, rfl⟩ ?_
      clear hK K hne k0
      simp only [Act.put]
      go_wp2_with fail
      go_roundw
      case rel => exact ⟨i + 1, by omega, by go_num, Lib.hid (.inr ⟨g, c4, _, _, rfl, HX.out⟩)⟩
      case measure => simp [intOf]; omega
    · have hd : decide (i < ks.length) = false := by simpa using hlt
      obtain rfl : i = ks.length := by omega
      have HF := Lib.hid HI.out.fin
      go_upto_region 8 with (fail)
      have HInF := Lib.hid (info_sz (.mk k t ns ks) un (.slice A4 ks.length c4))
      have HOneF := Lib.hid (cellJ_one (j := .mk k t ns ks) (jo_form HF.out.jo).1 (jo_form HF.out.jo).2)
      have HBx := Lib.hid HF.out.box
      have HRs := Lib.hid HF.out.res
      have HJF := Lib.hid (show JO (wa.setRow (B + 1) (cellJ (.mk k t ns ks) un (.slice A4 ks.length c4)).toArray) (.mk k t ns ks) (B + 2) (wa.setRow (B + 1) (cellJ (.mk k t ns ks) un (.slice A4 ks.length c4)).toArray).heap.size un (.slice A4 ks.length c4) from by
        have hs : (wa.setRow (B + 1) (cellJ (.mk k t ns ks) un (.slice A4 ks.length c4)).toArray).heap.size = wa.heap.size := by simp
        rw [hs]
        exact JO.frame _ _ _ _ _ (fun b h1 _ _ => setRow_other _ _ _ _ (by omega)) HF.out.jo)
      have HQF : Hid (Q w (wa.setRow (B + 1) (cellJ (.mk k t ns ks) un (.slice A4 ks.length c4)).toArray)) := Lib.hid (HF.out.q.setRow (by have := HB.out; omega) _)
      have HRF := Lib.hid (setRow_at HRs.out (cellJ (.mk k t ns ks) un (.slice A4 ks.length c4)).toArray)
      go_wp2_with (first | refine wpList_load_row rfl 40 (.tmp 1) rfl B rfl 40 (cellJ (.mk k t ns ks) un (.slice A4 ks.length c4)).toArray (0, 0) _ HBx.out Tryd.underlying40 rfl HInF.out ?_ | refine wpList_store_row rfl 40 (.tmp 2) (.tmp 28) rfl (B + 1) (cellJ (.mk k t ns ks) un (.slice A4 ks.length c4)).toArray rfl rfl 40 _ HRs.out HInF.out rfl HOneF.out ?_)
      refine bodyPost_ret (results_cell_row rfl _ _ (B + 1) 40 _ (0, 0) _ (by rfl) HRF.out Tryd.underlying40 rfl HInF.out) rfl ?_
      exact ⟨_, _, rfl, HJF.out.widen (by have := HB.out; omega) (Nat.le_refl _), HQF.out⟩
theorem twin_all : ∀ (n : Nat) (j : JsonD) (d : Nat), cntJ j ≤ n → n ≤ 8000 → wfJ j d = true → ∀ (w : World) (vn vk : Value), JV w j vn vk → Calls Tryd.prog 51 #[.agg (cellJ j vn vk).toArray] w (TwinP j w)
  | 0, j, _, hn, _, _, _, _, _, _ => absurd hn (by have := cnt_pos j; omega)
  | n + 1, .mk k t ns ks, d, hn, h8, hw, w, vn, vk, h => by
    rw [cntJ] at hn
    have h1 := cnt_len ks
    have h2 := wf_names hw
    exact twin_step k t ns ks (by omega) (by omega) (fun i hi W xn xk hx => by
      obtain ⟨d', hd'⟩ := wf_kid hw hi
      exact twin_all n (gK ks i) d' (gK_sub (by omega) hi) (by omega) hd' W xn xk hx) w vn vk h
end Go.Proofs.YtlhhiiemojhjdaaDoor
/- json.Find. -/
set_option linter.unusedVariables false
set_option linter.unusedSimpArgs false
namespace Go.Proofs.YtlhhiiemojhjdaaDoor
open Go Go.RowKit
/-- What stands in an object under a name. -/
def findJ (j : JsonD) (x : Txt) : JsonD × Bool := if j.kind = 7 ∧ rtB j 20 8000 = true ∧ 0 ≤ ixN x j.names 0 then (gK j.kids (ixN x j.names 0).toNat, true) else (zeroJ, false)
def FindP (j : JsonD) (x : Txt) (w : World) (e : Ending) (w' : World) : Prop := ∃ un uk, e = .returned (.tuple #[.agg (cellJ (findJ j x).1 un uk).toArray, .bool (findJ j x).2]) ∧ JO w' (findJ j x).1 w.heap.size w'.heap.size un uk ∧ Q w w'
theorem ixN_bound (x : Txt) : ∀ (ns : List Txt) (k : Nat), 0 ≤ ixN x ns k → (k : Int) ≤ ixN x ns k ∧ ixN x ns k < k + ns.length
  | [], k, h => by rw [ixN] at h; omega
  | y :: r, k, h => by
    rw [ixN] at h ⊢
    split at h
    · next e => rw [if_pos e]; simp; omega
    · next e => rw [if_neg e]; have := ixN_bound x r (k + 1) h; simp at this ⊢; omega
theorem ixN_low (x : Txt) : ∀ (ns : List Txt) (k : Nat), -1 ≤ ixN x ns k
  | [], k => by rw [ixN]; omega
  | y :: r, k => by rw [ixN]; split; omega; exact ixN_low x r (k + 1)
theorem find_kid {k : Int} {t : Txt} {ns : List Txt} {ks : List JsonD} {x : Txt} {i : Nat} (hk : k = 7) (hr : rtB (.mk k t ns ks) 20 8000 = true) (hi : ixN x ns 0 = (i : Int)) : findJ (.mk k t ns ks) x = (gK ks i, true) := by
  unfold findJ
  rw [if_pos ⟨hk, hr, by show 0 ≤ ixN x ns 0; omega⟩]
  show (gK ks (ixN x ns 0).toNat, true) = _
  rw [hi]; rfl
theorem rt_wf {j : JsonD} {d : Nat} {L : Int} (h : rtB j d L = true) : wfJ j d = true ∧ (cntJ j : Int) ≤ L := by
  unfold rtB at h
  simp only [Bool.and_eq_true, decide_eq_true_eq] at h
  exact h
theorem wf_obj {t : Txt} {ns : List Txt} {ks : List JsonD} {d : Nat} (h : wfJ (.mk 7 t ns ks) d = true) : ns.length = ks.length := by
  rw [wfJ] at h
  simp at h
  omega
theorem find_no {j : JsonD} {x : Txt} (h : ¬ (j.kind = 7 ∧ rtB j 20 8000 = true ∧ 0 ≤ ixN x j.names 0)) : findJ j x = (zeroJ, false) := by
  unfold findJ; rw [if_neg h]
theorem find_none {j : JsonD} {x : Txt} {w W : World} {B : Nat} (hB : w.heap.size = B) (hq : Q w W) (h : findJ j x = (zeroJ, false)) : FindP j x w (.returned (.tuple #[.agg (cellJ zeroJ (.slice none 0 0) (.slice none 0 0)).toArray, .bool false])) (W.setRow (B + 1) zeroC.toArray) := by
  have q := hq.setRow (g := B + 1) (by omega) zeroC.toArray
  refine ⟨.slice none 0 0, .slice none 0 0, ?_, ?_, q⟩
  · rw [h]
  · rw [h]; exact jo_nil q.size
set_option maxRecDepth 100000 in
theorem Find_any (j : JsonD) (x : Txt) (w : World) (vn vk : Value) (hj : JV w j vn vk) (hu : UT w) (hb : bigJ 9223372036854775807 j) :
    Calls Tryd.prog 24 #[.agg (cellJ j vn vk).toArray, .string ⟨x.toArray⟩] w (FindP j x w) := by
  obtain ⟨k, t, ns, ks⟩ := j
  have HC1 := Lib.hid (fun W (hq : Q w W) => isRight_any (.mk k t ns ks) W vn vk (hj.q hq) (Utf8Tabs_below hu hq) hb)
  obtain ⟨A2, c2n, cells, e2, hjk, hcl, hnone, hcc⟩ := hj.cells
  have hnv : NsV w vn ns := by rw [JV] at hj; exact hj.1
  have HIx := Lib.hid (fun W (hq : Q w W) => index_name ns x W vn (hnv.mono (fun _ _ => hq.cell)))
  have HKd := Lib.hid hj.kidAt
  subst e2
  obtain ⟨A1, c1n, rfl, _⟩ := hnv.at
  clear hj hnv hjk hcl hnone hcc hu hb
  go_enter Tryd.func24, Tryd.ntmps24
  go_upto_region 1 with (fail)
  have e1 := heap_alloc_new w (.cells (cellJ (.mk k t ns ks) (.slice A1 ns.length c1n) (.slice A2 ks.length c2n)).toArray 40)
  have q1 : Q w (w.alloc (.cells (cellJ (.mk k t ns ks) (.slice A1 ns.length c1n) (.slice A2 ks.length c2n)).toArray 40)) := (Q.refl w).alloc _
  have s1 : (w.alloc (.cells (cellJ (.mk k t ns ks) (.slice A1 ns.length c1n) (.slice A2 ks.length c2n)).toArray 40)).heap.size = w.heap.size + 1 := by simp
  obtain ⟨W1, hW1⟩ : ∃ W1, w.alloc (.cells (cellJ (.mk k t ns ks) (.slice A1 ns.length c1n) (.slice A2 ks.length c2n)).toArray 40) = W1 := ⟨_, rfl⟩
  rw [hW1] at e1 q1 s1
  rw [hW1]
  have e2 := heap_alloc_new W1 (.cells zeroC.toArray 40)
  have q2 : Q W1 (W1.alloc (.cells zeroC.toArray 40)) := (Q.refl W1).alloc _
  rw [s1] at e2
  obtain ⟨W2, hW2⟩ : ∃ W2, W1.alloc (.cells zeroC.toArray 40) = W2 := ⟨_, rfl⟩
  rw [hW2] at e2 q2
  have hW2' : W1.alloc (.cells #[.int .i64 0, .string ⟨#[]⟩, .slice none 0 0, .slice none 0 0] 40) = W2 := hW2
  rw [hW2']
  obtain ⟨B, hB⟩ : ∃ B, w.heap.size = B := ⟨_, rfl⟩
  have e1 := q2.block e1
  rw [hB] at e1 e2
  rw [hB]
  have HB := Lib.hid hB
  have HE1 := Lib.hid e1
  have HE2 := Lib.hid e2
  have HQ2 := Lib.hid (q1.trans q2)
  clear e1 e2 q1 q2 s1 hW1 hW2 hW2' hB
  have x0 : W2.cell? ⟨B, 0, none⟩ = some (.int .i64 k) := by rw [cell_of_row _ _ _ _ _ _ HE1.out]; rfl
  have x1 : W2.cell? ⟨B, 1, none⟩ = some (.string ⟨t.toArray⟩) := by rw [cell_of_row _ _ _ _ _ _ HE1.out]; rfl
  have x2 : W2.cell? ⟨B, 2, none⟩ = some (.slice A1 ns.length c1n) := by rw [cell_of_row _ _ _ _ _ _ HE1.out]; rfl
  have x3 : W2.cell? ⟨B, 3, none⟩ = some (.slice A2 ks.length c2n) := by rw [cell_of_row _ _ _ _ _ _ HE1.out]; rfl
  have HZI := Lib.hid (info_sz zeroJ (.slice none 0 0) (.slice none 0 0))
  have HZO := Lib.hid (cellJ_one (j := zeroJ) ⟨none, 0, 0, rfl⟩ ⟨none, 0, 0, rfl⟩)
  by_cases hk : k = 7
  · subst hk
    go_wp2_with fail
    refine (HC1.out _ HQ2.out).mono ?_
    rintro e W3 ⟨rfl, hq3⟩
    have HQ3 := Lib.hid (HQ2.out.trans hq3)
    have HE3 := Lib.hid (hq3.block HE2.out)
    have x2 := hq3.cell x2
    have x3 := hq3.cell x3
    clear hq3 x0 x1
    obtain ⟨p, hp⟩ : ∃ p, rtB (.mk 7 t ns ks) 20 8000 = p := ⟨_, rfl⟩
    have HP := Lib.hid hp
    rw [hp]
    clear hp
    cases p with
    | false =>
      have HF : Hid (findJ (.mk 7 t ns ks) x = (zeroJ, false)) := Lib.hid (find_no (fun h => by rw [HP.out] at h; exact absurd h.2.1 (by decide)))
      have HX := Lib.hid (find_none HB.out HQ3.out HF.out)
      have HR0 := Lib.hid (setRow_at HE3.out zeroC.toArray)
      clear x2 x3
      go_wp2_with (refine wpList_store_row rfl 40 (.tmp 4) (.tmp 15) rfl (B + 1) zeroC.toArray rfl rfl 40 _ HE3.out HZI.out rfl HZO.out ?_)
      exact bodyPost_ret (results_json (j := zeroJ) (vn := .slice none 0 0) (vk := .slice none 0 0) (p := 4) (q := 5) rfl (by rfl) HR0.out) rfl HX.out
    | true =>
      go_wp2_with fail
      refine (HIx.out _ HQ3.out).mono ?_
      rintro e W4 ⟨rfl, hq4⟩
      have HQ4 := Lib.hid (HQ3.out.trans hq4)
      have HE4 := Lib.hid (hq4.block HE3.out)
      have x3 := hq4.cell x3
      clear hq4 x2
      obtain ⟨ix, hix⟩ : ∃ ix, ixN x ns 0 = ix := ⟨_, rfl⟩
      have HIX := Lib.hid hix
      rw [hix]
      clear hix
      by_cases hneg : ix < 0
      · have g2 : decide (ix < 0) = true := by simpa using hneg
        have HF : Hid (findJ (.mk 7 t ns ks) x = (zeroJ, false)) := Lib.hid (find_no (fun h => by have h2 : 0 ≤ ixN x ns 0 := h.2.2; rw [HIX.out] at h2; omega))
        have HX := Lib.hid (find_none HB.out HQ4.out HF.out)
        have HR0 := Lib.hid (setRow_at HE4.out zeroC.toArray)
        clear x3
        go_wp2_with (refine wpList_store_row rfl 40 (.tmp 4) (.tmp 22) rfl (B + 1) zeroC.toArray rfl rfl 40 _ HE4.out HZI.out rfl HZO.out ?_)
        exact bodyPost_ret (results_json (j := zeroJ) (vn := .slice none 0 0) (vk := .slice none 0 0) (p := 4) (q := 5) rfl (by rfl) HR0.out) rfl HX.out
      · have hb4 := ixN_bound x ns 0 (by rw [HIX.out]; omega)
        rw [HIX.out] at hb4
        obtain ⟨i, rfl⟩ : ∃ i : Nat, ix = (i : Int) := ⟨ix.toNat, by omega⟩
        have HF := Lib.hid (find_kid rfl HP.out HIX.out)
        have hw := rt_wf HP.out
        have hwn := hw.1
        have hnk := wf_obj hwn
        have hil : i < ks.length := by omega
        have hlk : ks.length ≤ 8000 := by
          have h1 := cnt_len ks
          have h2 := hw.2
          rw [cntJ] at h2
          omega
        have g2 : decide (((i : Nat) : Int) < 0) = false := by simp
        obtain ⟨A', c', e', hc1, hc2, hkd⟩ := HKd.out
        injection e' with e1 _ e2
        subst e1 e2
        obtain ⟨g, off, un, uk, hA⟩ := hkd i hil
        obtain rfl := hA.a
        have HA := Lib.hid (hA.q HQ4.out)
        have HIn := Lib.hid (info_sz (gK ks i) un uk)
        have HTw : Hid (∀ W, Q w W → Calls Tryd.prog 51 #[.agg (cellJ (gK ks i) un uk).toArray] W (TwinP (gK ks i) W)) := Lib.hid (fun W hq => by
          obtain ⟨d', hd'⟩ := wf_kid hwn hil
          have h2 := hw.2
          rw [cntJ] at h2
          have h3 := cnt_gK hil
          exact twin_all 8000 (gK ks i) d' (by omega) (Nat.le_refl _) hd' W un uk (hA.jv.q hq))
        have hd3 : decide (i < ks.length) = true := by simpa using hil
        clear hkd hb4 hw hwn hnk hA hneg HKd
        have HRg := Lib.hid HA.out.rg
        go_upto_region 6 with (fail)
        go_wp2_with (refine wpList_load_mid rfl 40 (.tmp 26) rfl g (off + i * 4) rfl (cellJ (gK ks i) un uk) _ HRg.out Tryd.underlying40 rfl HIn.out ?_; simp only [Act.put, List.setIfInBounds_toArray, List.set_cons_succ, List.set_cons_zero])
        refine (HTw.out _ HQ4.out).mono ?_
        rintro e W5 ⟨xn, xk, rfl, hj5, hq5⟩
        have HJ5 := Lib.hid hj5
        have HQ5 := Lib.hid (HQ4.out.trans hq5)
        have HE5 := Lib.hid (hq5.block HE4.out)
        have HIn5 := Lib.hid (info_sz (gK ks i) xn xk)
        have HOne5 := Lib.hid (cellJ_one (j := gK ks i) (jo_form hj5).1 (jo_form hj5).2)
        have HR0 := Lib.hid (setRow_at HE5.out (cellJ (gK ks i) xn xk).toArray)
        have HX : Hid (FindP (.mk 7 t ns ks) x w (.returned (.tuple #[.agg (cellJ (gK ks i) xn xk).toArray, .bool true])) (W5.setRow (B + 1) (cellJ (gK ks i) xn xk).toArray)) := Lib.hid (by
          have hB := HB.out
          have h4 := HQ4.out.size
          have hE := lt_of_heap HE4.out
          have q := HQ5.out.setRow (g := B + 1) (by omega) (cellJ (gK ks i) xn xk).toArray
          refine ⟨xn, xk, by rw [HF.out], ?_, q⟩
          rw [HF.out]
          have hs : (W5.setRow (B + 1) (cellJ (gK ks i) xn xk).toArray).heap.size = W5.heap.size := by simp
          rw [hs]
          exact (JO.frame _ _ _ _ _ (fun b h1 _ _ => setRow_other _ _ _ _ (by omega)) HJ5.out).widen (by omega) (Nat.le_refl _))
        clear hj5 hq5 x3 hd3 g2
        go_wp2_with (refine wpList_store_row rfl 40 (.tmp 4) (.tmp 28) rfl (B + 1) (cellJ (gK ks i) xn xk).toArray rfl rfl 40 _ HE5.out HIn5.out rfl HOne5.out ?_)
        exact bodyPost_ret (results_json (p := 4) (q := 5) rfl (by rfl) HR0.out) rfl HX.out
  · have g1 : decide (k = 7) = false := by simpa using hk
    have HF : Hid (findJ (.mk k t ns ks) x = (zeroJ, false)) := Lib.hid (find_no (fun h => hk h.1))
    have HX := Lib.hid (find_none HB.out HQ2.out HF.out)
    have HR0 := Lib.hid (setRow_at HE2.out zeroC.toArray)
    clear x1 x2 x3
    go_wp2_with (refine wpList_store_row rfl 40 (.tmp 4) (.tmp 15) rfl (B + 1) zeroC.toArray rfl rfl 40 _ HE2.out HZI.out rfl HZO.out ?_)
    exact bodyPost_ret (results_json (j := zeroJ) (vn := .slice none 0 0) (vk := .slice none 0 0) (p := 4) (q := 5) rfl (by rfl) HR0.out) rfl HX.out
end Go.Proofs.YtlhhiiemojhjdaaDoor
