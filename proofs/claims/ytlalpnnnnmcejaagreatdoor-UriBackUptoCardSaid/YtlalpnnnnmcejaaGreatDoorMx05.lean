/- Texts of this proof, laid into one: UrL, UrM, UrG, UrH, UrO. -/
import Derived.Test.YtlalpnnnnmcejaaGreatDoorMx04
import Derived.Shelf.Strings.SlTrimAscii
import Derived.Shelf.Strings.FuncGrows
/- uri.Canon. -/
set_option linter.unusedVariables false
set_option linter.unusedSimpArgs false
namespace Go.Proofs.YtlalpnnnnmcejaaGreatDoor
open Go Go.RowKit
def SW (S : World → Prop) := {w : World // S w}
/-- wp_plan, of whatever worlds. -/
theorem wp_plan_S {P : Program} {id : Nat} {R : Exit → Act → World → Prop} {a : Act} {w : World} {l : List Oper} (S : World → Prop) (hS : S w.drew) (ps : List (List Nat × List Nat)) (hm : P.follows .mixedOrders = true)
    (hB : (Region.noSelect l.toArray && planB l.toArray ps (Array.replicate l.length false) && decide (planN ps = l.length)) = true)
    (hQ : ∀ c a d v w, R (.panic c) (Act.put a d v) w → R (.panic c) a w)
    (h : wpPlan P l.toArray R (fun w' => ∃ m : SW S, w' = m.val) ps a w.drew) : (Code.region id l.toArray true).wp P R a w := by
  simp only [Bool.and_eq_true, decide_eq_true_eq] at hB
  refine wp_region_held (S := fun w' => ∃ m : SW S, w' = m.val) hm ?_
  have := any_plan hB.1.1 hQ ps (Array.replicate l.length false) a w.drew ⟨⟨w.drew, hS⟩, rfl⟩ hB.1.2 h
  rw [hB.2] at this
  exact this
def encP (p : PairD) : PairD := (encL true p.1, encL true p.2)
/-- A pair in a block. -/
def PB (w : World) (b : Nat) (p : PairD) : Prop := w.heap[b]? = some (.cells (pairL p).toArray 37 (0, 0))
theorem PB.c0 {w : World} {b : Nat} {p : PairD} (h : PB w b p) : w.cell? ⟨b, 0, none⟩ = some (.string ⟨p.1.toArray⟩) := by rw [cell_of_row _ _ _ _ _ _ h]; rfl
theorem PB.c1 {w : World} {b : Nat} {p : PairD} (h : PB w b p) : w.cell? ⟨b, 1, none⟩ = some (.string ⟨p.2.toArray⟩) := by rw [cell_of_row _ _ _ _ _ _ h]; rfl
theorem PB.make (w : World) (p : PairD) : PB ((w.alloc (.cells (pairL ([], [])).toArray 37)).setRow w.heap.size (pairL p).toArray) w.heap.size p ∧ Q w ((w.alloc (.cells (pairL ([], [])).toArray 37)).setRow w.heap.size (pairL p).toArray) := by
  exact ⟨setRow_heap _ _ _ _ _ _ (MapKept.heap_alloc w _).1, Q.setRow ((Q.refl _).alloc _) (Nat.le_refl _) _⟩
theorem take_snocP (ps : List PairD) (k : Nat) (h : k < ps.length) : ps.take (k + 1) = ps.take k ++ [gU ps k] := by
  rw [List.take_add_one, List.getElem?_eq_getElem h]; simp [gU, List.getD, h]
theorem oneStrU : OneCell Tryz.prog 55 9 (.string ⟨#[]⟩) 16 := ⟨Tryz.underlying55, by kernel_rfl, rfl⟩
theorem wpList_append_t {ops : Array Oper} {rest : List Oper} {o : Oper} {a : Act} {R : Exit → Act → World → Prop} (hgd : o.guard = none) (s x : Operand)
    (ho : o.op = .call { callee := .builtin .append, args := #[s, x], argTypes := #[55, 55] })
    (w0 W : World) (v : Value) (us : List Value) (u : List UInt8) (hs : a.eval s = v) (hown : OwnS 9 w0 W v us) (hx : a.eval x = .slice (some ⟨W.heap.size, 0, none⟩) 1 1) (hw0 : w0.heap.size ≤ W.heap.size) (hb : us.length ≤ 1100000)
    (h : ∀ v' w', OwnS 9 w0 w' v' (us ++ [strV u]) → W.grownBy w' v.ownBlock → wpList Tryz.prog ops R rest (a.put o.dst v') w') : wpList Tryz.prog ops R (o :: rest) a (W.alloc (.cells #[strV u] 9)) := by
  obtain ⟨i, hi, hz, hsz, hby⟩ := info_parts oneStrU.info
  refine wpList_append_own (w := W.alloc (.cells #[strV u] 9)) hgd s x 55 ho w0.heap.size 9 i _ 1 16 oneStrU.under hi hz hsz hby oneStrU.zsize (by decide) v us.length us hs (World.ownsRow.alloc hown _) ⟨W.heap.size, 0, none⟩ 1 1 [strV u] hx rfl ?_ (by simp [strV, Value.oneCell']) (by unfold maxLen; omega) (by omega) (by simp; omega) ?_
  · intro j y hj
    have e : (Addr.add ⟨W.heap.size, 0, none⟩ j) = ⟨W.heap.size, j, none⟩ := by unfold Addr.add; split <;> simp_all
    rw [e, cell_of_row _ _ _ _ _ _ (MapKept.heap_alloc W _).1]
    simpa using hj
  · intro v' w' h2 hg _
    refine h v' w' ?_ ((World.grownBy_alloc W _ _).trans hg)
    unfold OwnS; rw [List.length_append]; exact h2
def joinE (p : PairD) : List UInt8 := p.1 ++ 61 :: p.2
def partsL (ps : List PairD) : List (List UInt8) := (sortP (ps.map encP)).map joinE
def canonL (ps : List PairD) : List UInt8 := Lib.join (partsL ps) [38]
theorem join_len (c : UInt8) (B : Nat) : ∀ xs : List (List UInt8), (∀ x ∈ xs, x.length ≤ B) → (Lib.join xs [c]).length ≤ xs.length * (B + 1) := by
  intro xs
  unfold Lib.join
  induction xs with
  | nil => simp
  | cons a r ih =>
    intro h
    have h1 := h a List.mem_cons_self
    have h2 := ih (fun x hx => h x (List.mem_cons_of_mem _ hx))
    rcases r with _ | ⟨b, r⟩
    · simp; omega
    · rw [List.intercalate_cons_cons]
      simp only [List.length_append, List.length_cons, List.length_nil, Nat.add_mul] at *
      omega
theorem join_any (w0 w : World) (v : Value) (ls : List (List UInt8)) (h : OwnS 9 w0 w v (ls.map strV)) (hn : ls.length ≤ 1100000) (hb : ∀ x ∈ ls, x.length ≤ 60000001) :
    Calls Tryz.prog 38 #[v, .string ⟨#[38]⟩] w fun e w' => e = .returned (.string ⟨(Lib.join ls [38]).toArray⟩) ∧ Q w w' := by
  rcases h.2 with ⟨rfl, h0⟩ | ⟨g, cap, cur, rfl, hbg, hh, hnc, hcm, hcs, ht⟩
  · have : ls = [] := by rw [List.length_map] at h0; exact List.eq_nil_of_length_eq_zero h0
    subst this
    refine (Tryz.strings_Join_none none 0 ⟨#[38]⟩ w).mono ?_
    rintro e w' ⟨rfl, rfl⟩
    exact ⟨rfl, Q.refl _⟩
  · have hl : (ls.map strV).length = ls.length := List.length_map _
    rw [hl] at hnc ht ⊢
    have hjl := join_len 38 60000001 ls hb
    have hjb : (Lib.join ls [38]).length ≤ 140737488355328 := Nat.le_trans hjl (by have := Nat.mul_le_mul_right (60000001 + 1) hn; omega)
    have hxs : (ls.map fun l => (⟨l.toArray⟩ : ByteArray)).map (·.data.toList) = ls := by rw [List.map_map]; simp [Function.comp_def]
    have hxl : (ls.map fun l => (⟨l.toArray⟩ : ByteArray)).length = ls.length := List.length_map _
    have := Tryz.strings_Join g 0 cap (ls.map fun l => (⟨l.toArray⟩ : ByteArray)) ⟨#[38]⟩ w (fun j x hx => by
      have hj : j < ls.length := by have := (List.getElem?_eq_some_iff.1 hx).1; rwa [hxl] at this
      rw [Nat.zero_add, cell_of_row _ _ _ _ _ _ hh]
      have e : (cur.toList.take (ls.length * 1))[j]? = (ls.map strV)[j]? := by rw [ht]
      rw [List.getElem?_take, if_pos (by omega), Array.getElem?_toList] at e
      rw [e, List.getElem?_map, List.getElem?_eq_getElem hj]
      rw [List.getElem?_map, List.getElem?_eq_getElem hj] at hx
      injection hx with hx
      subst hx; rfl) (lt_of_heap hh) (by rw [hxl]; omega) (by rw [hxl]; exact hnc) (by rw [hxs]; exact hjb)
    rw [hxl, hxs] at this
    exact this
/-- The worlds of a round: grown from the base, and the pair in its block. -/
def RS (w0 : World) (b : Nat) (p : PairD) (w : World) : Prop := Q w0 w ∧ PB w b p
theorem pairL_one (p : PairD) : (pairL p).toArray.all (·.oneCell') = true := by
  rw [Array.all_eq_true_iff_forall_mem]
  intro v hv
  exact one_cells p v (by simpa using hv)
set_option maxRecDepth 100000 in
set_option maxHeartbeats 4000000 in
theorem Canon_any (A : Option Addr) (n cap : Nat) (ps : List PairD) (w : World) (h : PairsAt w A n ps) (hc : n ≤ cap) (hcap : cap ≤ 9223372036854775807) (hn1 : n ≤ 1100000) (hps : ∀ p ∈ ps, p.1.length ≤ 10000000 ∧ p.2.length ≤ 10000000) :
    Calls Tryz.prog 16 #[.slice A n cap] w fun e w' => e = .returned (.string ⟨(canonL ps).toArray⟩) ∧ Q w w' := by
  obtain rfl := h.1
  have HPS := Lib.hid hps
  have HP := Lib.hid h
  clear hps h
  go_enter Tryz.func16, Tryz.ntmps16
  go_wp2_with fail
  go_loopw [3, 11] (fun v i wr => ∃ k : Nat, k ≤ ps.length ∧ i = .int .i64 (k : Int) ∧ Hid (OwnU w wr v ((ps.take k).map encP)) ∧ Hid (Q w wr)) (fun _ i _ => ps.length - (intOf i).toNat)
  case atStart => exact ⟨0, by omega, rfl, Lib.hid (OwnU.nil _ _), Lib.hid (Q.refl _)⟩
  case round =>
    obtain ⟨k, hk, rfl, HO, HQ⟩ := hrel
    by_cases hlt : k < ps.length
    · have g1 : decide (k < ps.length) = true := by simpa using hlt
      obtain ⟨g, off, rfl, e0, e1⟩ := (HP.out.q HQ.out).at hlt
      obtain ⟨⟨x, y⟩, hxy⟩ : ∃ p, gU ps k = p := ⟨_, rfl⟩
      rw [hxy] at e0 e1
      simp only at e0 e1
      have HXY : Hid (x.length ≤ 10000000 ∧ y.length ≤ 10000000) := Lib.hid (by
        have hk2 : k < ps.length := hlt
        have e : gU ps k = ps[k] := by simp [gU, List.getD, hk2]
        have := HPS.out _ (List.getElem_mem hk2)
        rw [← e, hxy] at this; exact this)
      have HTK : Hid ((ps.take (k + 1)).map encP = (ps.take k).map encP ++ [encP (x, y)]) := Lib.hid (by rw [take_snocP ps k (by omega), hxy]; simp)
      have HTL : Hid (((ps.take k).map encP).length ≤ 1100000) := Lib.hid (by rw [List.length_map, List.length_take]; omega)
      obtain ⟨hb5, hq5⟩ := PB.make wr (x, y)
      have hbn : (wr.alloc (.cells (pairL ([], [])).toArray 37)).heap[wr.heap.size]? = some (.cells (pairL ([], [])).toArray 37 (0, 0)) := (MapKept.heap_alloc wr _).1
      obtain ⟨N5, hN5⟩ : ∃ G, wr.heap.size = G := ⟨_, rfl⟩
      rw [hN5] at hb5 hq5 hbn
      obtain ⟨W4, hW4⟩ : ∃ W, wr.alloc (.cells (pairL ([], [])).toArray 37) = W := ⟨_, rfl⟩
      rw [hW4] at hb5 hq5 hbn
      have hW4b : wr.alloc (.cells #[.string ⟨#[]⟩, .string ⟨#[]⟩] 37) = W4 := hW4
      clear hW4
      go_upto_region 5 with (refine wpList_store_row rfl 37 _ _ rfl N5 (pairL (x, y)).toArray (by rfl) (by rfl) 37 _ hbn infoP rfl (pairL_one _) ?_)
      obtain ⟨W5, hW5⟩ : ∃ W, W4.setRow N5 (pairL (x, y)).toArray = W := ⟨_, rfl⟩
      rw [hW5] at hb5 hq5 ⊢
      have HO5 := Lib.hid (HO.out.q hq5)
      have HQ5 := Lib.hid (HQ.out.trans hq5)
      have HB5 := Lib.hid hb5
      have HN5 : Hid (∀ bk, u3.ownBlock = some bk → bk ≠ N5) := Lib.hid (fun bk hbk => by
        have := (HO.out.block hbk).2.1; rw [hN5] at this; omega)
      have k0 : ∀ m : SW (RS w N5 (x, y)), m.val.cell? ⟨N5, 0, none⟩ = some (.string ⟨x.toArray⟩) := fun m => m.property.2.c0
      have k1 : ∀ m : SW (RS w N5 (x, y)), m.val.cell? ⟨N5, 1, none⟩ = some (.string ⟨y.toArray⟩) := fun m => m.property.2.c1
      clear hbn hN5 hW4b hW5 hb5 hq5 e0 e1 HO HQ
      haveI hne : Nonempty (SW (RS w N5 (x, y))) := ⟨⟨W5.drew, HQ5.out.drew, HB5.out⟩⟩
      refine wp_region_noPanic ?_
      refine wp_plan_S (RS w N5 (x, y)) ⟨HQ5.out.drew, HB5.out⟩ [([0, 1, 2, 4, 5], [3]), ([], [6]), ([7], [8, 9, 10])] (by kernel_rfl) (by kernel_rfl) (fun _ _ _ _ _ h => h) ?_
      simp only [wpPlan, wpListK, List.map_cons, List.map_nil, Array.getD_eq_getD_getElem?, List.getElem?_toArray, List.getElem?_cons_succ, List.getElem?_cons_zero, Option.getD_some, Act.put, List.setIfInBounds_toArray, List.set_cons_succ, List.set_cons_zero]
      (repeat (go_big_quiet_step (fail)))
      refine wpQuiet_nil ?_
      intro K hK
      go_wp2_with fail
      refine (Encode_any x true _ (by have := HXY.out.1; omega)).mono ?_
      rintro e W6 ⟨rfl, hq6⟩
      have HO6 := Lib.hid ((HO5.out.q (Q.refl W5).drew).q hq6)
      have HQ6 := Lib.hid (HQ5.out.drew.trans hq6)
      have HB6 : Hid (PB W6 N5 (x, y)) := Lib.hid (hq6.block (HB5.out : PB W5.drew N5 (x, y)))
      clear hq6 HO5 HQ5 HB5 hne
      go_wp2_with fail
      refine hK.out _ _ ⟨⟨W6, HQ6.out, HB6.out⟩, rfl⟩ ?_
      clear hK K
      haveI hne : Nonempty (SW (RS w N5 (x, y))) := ⟨⟨W6, HQ6.out, HB6.out⟩⟩
      (repeat (go_big_quiet_step (fail)))
      refine wpQuiet_nil ?_
      intro K hK
      go_wp2_with fail
      refine (Encode_any y true _ (by have := HXY.out.2; omega)).mono ?_
      rintro e W7 ⟨rfl, hq7⟩
      have HO7 := Lib.hid (HO6.out.q hq7)
      have HQ7 := Lib.hid (HQ6.out.trans hq7)
      have HB7 : Hid (PB W7 N5 (x, y)) := Lib.hid (hq7.block HB6.out)
      clear hq7 HO6 HQ6 HB6 hne
      go_wp2_with fail
      refine hK.out _ _ ⟨⟨W7, HQ7.out, HB7.out⟩, rfl⟩ ?_
      clear hK K
      haveI hne : Nonempty (SW (RS w N5 (x, y))) := ⟨⟨W7, HQ7.out, HB7.out⟩⟩
      (repeat (go_big_quiet_step (fail)))
      refine wpQuiet_nil ?_
      intro K hK
      go_wp2_with fail
      have hq8 : Q W7 (W7.alloc (.cells (pairL (encP (x, y))).toArray 37)) := (Q.refl W7).alloc _
      have hB8 := hq8.block HB7.out
      refine hK.out _ _ ⟨⟨W7.alloc (.cells (pairL (encP (x, y))).toArray 37), HQ7.out.trans hq8, hB8⟩, rfl⟩ ?_
      clear hK K
      intro K hK
      refine wpList_append_u rfl (.tmp 15) (.tmp 23) rfl w W7 u3 ((ps.take k).map encP) (encP (x, y)) rfl HO7.out rfl HQ7.out.size (by have := HTL.out; omega) ?_
      intro v9 w9 ho9 hg9
      refine wpList_nil ?_
      have hq9 : Q w w9 := gb_q_own hg9 HQ7.out (fun bk hbk => (HO7.out.block hbk).1)
      have hB9 : PB w9 N5 (x, y) := by
        unfold PB
        rw [hg9.block N5 (lt_of_heap HB7.out) (fun e => HN5.out _ e.symm rfl)]
        exact HB7.out
      refine hK.out _ _ ⟨⟨w9, hq9, hB9⟩, rfl⟩ ?_
      have HO9 := Lib.hid ho9
      have HQ9 := Lib.hid hq9
      have HB9 := Lib.hid hB9
      clear hK K ho9 hg9 hq9 hB9 hq8 hB8 HO7 HQ7 HB7 hne k0 k1
      intro K hK
      go_wp2_with fail
      refine hK.out _ _ ⟨⟨w9, HQ9.out, HB9.out⟩, rfl⟩ ?_
      clear hK K
      refine NoPanic.normal ?_
      go_wp2_with fail
      go_roundw
      case rel => exact ⟨k + 1, by omega, by go_num, by rw [HTK.out]; exact HO9, HQ9⟩
      case measure => simp [intOf]; omega
    · obtain rfl : k = ps.length := by omega
      rw [List.take_length] at HO
      have HBD : Hid (∀ p ∈ sortP (ps.map encP), p.1.length ≤ 30000000 ∧ p.2.length ≤ 30000000) := Lib.hid (fun p hp => by
        have hp' : p ∈ ps.map encP := (List.mergeSort_perm _ _).mem_iff.1 hp
        obtain ⟨q, hq, rfl⟩ := List.mem_map.1 hp'
        have h1 := encL_le true q.1
        have h2 := encL_le true q.2
        have h3 := HPS.out q hq
        constructor
        · show (encL true q.1).length ≤ _; omega
        · show (encL true q.2).length ≤ _; omega)
      clear HPS HP hlt hk hcap hc
      have hml : (ps.map encP).length ≤ 100000000 := by rw [List.length_map]; omega
      have hsl : (sortP (ps.map encP)).length = ps.length := by rw [sortP_len, List.length_map]
      have HPL : Hid (partsL ps = (sortP (ps.map encP)).map joinE) := Lib.hid rfl
      go_wp2_with fail
      refine (sort_any w _ _ _ HO.out hml).mono ?_
      rintro e ws ⟨rfl, hos, hgs⟩
      have hqs : Q w ws := gb_q_own hgs HQ.out (fun bk hbk => (HO.out.block hbk).1)
      obtain ⟨out, hout⟩ : ∃ out, sortP (ps.map encP) = out := ⟨_, rfl⟩
      rw [hout] at hos hsl HPL HBD
      obtain ⟨A2, c2, hv2, hc2, hp2⟩ := hos.pairs
      rw [hsl] at hv2 hc2 hp2
      subst hv2
      have HP2 := Lib.hid hp2
      have HQS := Lib.hid hqs
      clear hp2 hqs hos hgs HO HQ hout hml
      go_wp2_with fail
      go_loopw [6, 30] (fun v i wr => ∃ k : Nat, k ≤ ps.length ∧ i = .int .i64 (k : Int) ∧ Hid (OwnS 9 ws wr v (((out.take k).map joinE).map strV)) ∧ Hid (Q ws wr)) (fun _ i _ => ps.length - (intOf i).toNat)
      case atStart => exact ⟨0, by omega, rfl, Lib.hid (OwnS.nil _ _ _), Lib.hid (Q.refl _)⟩
      case round =>
        obtain ⟨k, hk, rfl, HO, HQ⟩ := hrel
        by_cases hlt : k < ps.length
        · have g1 : decide (k < ps.length) = true := by simpa using hlt
          obtain ⟨g, off, rfl, e0, e1⟩ := (HP2.out.q HQ.out).at hlt
          obtain ⟨⟨x, y⟩, hxy⟩ : ∃ p, gU out k = p := ⟨_, rfl⟩
          rw [hxy] at e0 e1
          simp only at e0 e1
          have hxl : x.length ≤ 30000000 ∧ y.length ≤ 30000000 := by
            have hk2 : k < out.length := by omega
            have e : gU out k = out[k] := by simp [gU, List.getD, hk2]
            have := HBD.out _ (List.getElem_mem hk2)
            rw [← e, hxy] at this; exact this
          obtain ⟨hx3, hy3⟩ := hxl
          have HTK : Hid (((out.take (k + 1)).map joinE).map strV = ((out.take k).map joinE).map strV ++ [strV (joinE (x, y))]) := Lib.hid (by rw [take_snocP out k (by omega), hxy]; simp)
          have HTL : Hid ((((out.take k).map joinE).map strV).length ≤ 1100000) := Lib.hid (by simp only [List.length_map, List.length_take]; omega)
          obtain ⟨hb5, hq5⟩ := PB.make wr (x, y)
          have hbn : (wr.alloc (.cells (pairL ([], [])).toArray 37)).heap[wr.heap.size]? = some (.cells (pairL ([], [])).toArray 37 (0, 0)) := (MapKept.heap_alloc wr _).1
          obtain ⟨N5, hN5⟩ : ∃ G, wr.heap.size = G := ⟨_, rfl⟩
          rw [hN5] at hb5 hq5 hbn
          obtain ⟨W4, hW4⟩ : ∃ W, wr.alloc (.cells (pairL ([], [])).toArray 37) = W := ⟨_, rfl⟩
          rw [hW4] at hb5 hq5 hbn
          have hW4b : wr.alloc (.cells #[.string ⟨#[]⟩, .string ⟨#[]⟩] 37) = W4 := hW4
          clear hW4
          go_upto_region 12 with (refine wpList_store_row rfl 37 _ _ rfl N5 (pairL (x, y)).toArray (by rfl) (by rfl) 37 _ hbn infoP rfl (pairL_one _) ?_)
          obtain ⟨W5, hW5⟩ : ∃ W, W4.setRow N5 (pairL (x, y)).toArray = W := ⟨_, rfl⟩
          rw [hW5] at hb5 hq5 ⊢
          have HO5 := Lib.hid (HO.out.q hq5)
          have HQ5 := Lib.hid (HQ.out.trans hq5)
          have b0 := hb5.c0
          have b1 := hb5.c1
          simp only at b0 b1
          clear hbn hN5 hW4b hW5 hb5 hq5 e0 e1 HO HQ
          simp only [Act.put, List.setIfInBounds_toArray, List.set_cons_succ, List.set_cons_zero]
          iterate 25 go_step
          refine wpList_append_t rfl (.tmp 34) (.tmp 41) rfl ws W5 u6 _ _ rfl HO5.out rfl HQ5.out.size HTL.out ?_
          intro v9 w9 ho9 hg9
          have hq9 : Q ws w9 := gb_q_own hg9 HQ5.out (fun bk hbk => HO5.out.block hbk)
          have HO9 := Lib.hid ho9
          have HQ9 := Lib.hid hq9
          clear ho9 hg9 hq9 HO5 HQ5 b0 b1
          go_wp2_with fail
          go_roundw
          case rel => exact ⟨k + 1, by omega, by go_num, by rw [HTK.out]; have := HO9.out; simpa [joinE] using Lib.hid this, HQ9⟩
          case measure => simp [intOf]; omega
        · obtain rfl : k = ps.length := by omega
          have hko : out.take ps.length = out := by rw [← hsl, List.take_length]
          rw [hko] at HO
          have hbj : ∀ x ∈ out.map joinE, x.length ≤ 60000001 := by
            intro x hx
            obtain ⟨q, hq, rfl⟩ := List.mem_map.1 hx
            have := HBD.out q hq
            simp only [joinE, List.length_append, List.length_cons]; omega
          have HJ := Lib.hid hbj
          have HCL : Hid (canonL ps = Lib.join (out.map joinE) [38]) := Lib.hid (by unfold canonL; rw [HPL.out])
          have hol : (out.map joinE).length ≤ 1100000 := by rw [List.length_map]; omega
          clear hbj HBD HPL
          go_wp2_with fail
          refine (join_any ws _ _ _ HO.out hol HJ.out).mono ?_
          rintro e w9 ⟨rfl, hq9⟩
          rw [← HCL.out]
          go_wp2_with fail
          go_ret
          exact ⟨rfl, (HQS.out.trans HQ.out).trans hq9⟩
end Go.Proofs.YtlalpnnnnmcejaaGreatDoor
/- Target's closure. -/
set_option linter.unusedVariables false
set_option linter.unusedSimpArgs false
namespace Go.Proofs.YtlalpnnnnmcejaaGreatDoor
open Go Go.RowKit
/-- A number in a block. -/
def BI (w : World) (b : Nat) (v : Int) : Prop := w.heap[b]? = some (.cells #[.int .i64 v] 3 (0, 0))
theorem BI.c {w : World} {b : Nat} {v : Int} (h : BI w b v) : w.cell? ⟨b, 0, none⟩ = some (.int .i64 v) := by rw [cell_of_row _ _ _ _ _ _ h]; rfl
theorem BI.f {w : World} {b : Nat} {v : Int} (h : BI w b v) : w.frozen? ⟨b, 0, none⟩ = false := frozen_of_row w b 0 _ _ h
theorem BI.q {w w' : World} {b : Nat} {v : Int} (h : BI w b v) (hq : Q w w') : BI w' b v := hq.block h
theorem BI.set {w : World} {b : Nat} {v : Int} (h : BI w b v) (x : Int) : BI (w.setCell ⟨b, 0, none⟩ (.int .i64 x)) b x := by
  unfold BI; rw [heap_setCell_any w b 0 _ _ _ _ h]; rfl
theorem BI.other {w : World} {b c : Nat} {v : Int} (h : BI w b v) (hn : b ≠ c) (x : Value) : BI (w.setCell ⟨c, 0, none⟩ x) b v := by
  unfold BI; rw [heap_setCell_other w ⟨c, 0, none⟩ b x hn]; exact h
theorem BI.lt {w : World} {b : Nat} {v : Int} (h : BI w b v) : b < w.heap.size := lt_of_heap h
def badT (t : List UInt8) (at_ bad : Int) : Int := match (decR t).2 with | none => bad | some k => if bad < 0 then at_ + k else bad
theorem decR_pos : ∀ (n : Nat) (l : List UInt8), l.length ≤ n → ∀ k, (decR l).2 = some k → k < l.length := by
  intro n
  induction n with
  | zero => intro l hl k h; rcases l with _ | ⟨x, r⟩
            · simp [decR] at h
            · simp at hl
  | succ n ih =>
    intro l hl k h
    rcases l with _ | ⟨c, r⟩
    · simp [decR] at h
    · by_cases hc : c = 37
      · subst hc
        rcases r with _ | ⟨x, _ | ⟨y, t⟩⟩
        · rw [decR_s1] at h; injection h with h; subst h; simp
        · rw [decR_s2] at h; injection h with h; subst h; simp
        · rw [decR_esc] at h
          split at h
          · injection h with h; subst h; simp
          · rcases hd : (decR t).2 with _ | j
            · rw [hd] at h; cases h
            · rw [hd] at h
              have h : j + 3 = k := by simpa using h
              have := ih t (by simp at hl; omega) j hd
              simp; omega
      · rw [decR_plain _ _ hc] at h
        rcases hd : (decR r).2 with _ | j
        · simp only [hd] at h; cases h
        · rw [hd] at h
          have h : j + 1 = k := by simpa using h
          have := ih r (by simp at hl; omega) j hd
          simp; omega
theorem decR_lt {l : List UInt8} {k : Nat} (h : (decR l).2 = some k) : k < l.length := decR_pos l.length l (Nat.le_refl _) k h
set_option maxRecDepth 100000 in
set_option maxHeartbeats 2000000 in
theorem Target1_any (t : List UInt8) (b8 b9 : Nat) (at_ bad : Int) (w : World) (h8 : BI w b8 at_) (h9 : BI w b9 bad) (hne : b8 ≠ b9) (hl : t.length ≤ 100000000) (ha : 0 ≤ at_) (ha2 : at_ ≤ 1000000000) (hb : -1 ≤ bad) (hb2 : bad ≤ 1000000000) :
    Calls Tryz.prog 32 #[.string ⟨t.toArray⟩, .pointer (some ⟨b9, 0, none⟩), .pointer (some ⟨b8, 0, none⟩)] w fun e w' =>
      e = .returned (.string ⟨(decOut t).1.toArray⟩) ∧ BI w' b8 (at_ + (t.length + 1)) ∧ BI w' b9 (badT t at_ bad) ∧ GX [b8, b9] w w' := by
  rcases hr : (decR t).2 with _ | k
  · have ho : decOut t = ((decR t).1, 0, 0) := by unfold decOut; rw [hr]
    have hbt : badT t at_ bad = bad := by unfold badT; rw [hr]
    rw [ho, hbt]
    go_enter Tryz.func32, Tryz.ntmps32
    go_wp2_with fail
    refine (Decode_any t _ hl).mono ?_
    rintro e w1 ⟨rfl, hq⟩
    rw [ho]
    have k8 := h8.q hq
    have k9 := h9.q hq
    have c8 := k8.c
    have f8 := k8.f
    have HQ := Lib.hid hq
    clear hq
    go_wp2_with fail
    go_ret
    refine ⟨rfl, k8.set _, k9.other (fun e => hne e.symm) _, GX.set (GX.q HQ.out) (by simp) _ _⟩
  · have hk := decR_lt hr
    have ho : decOut t = ([], 52, k) := by unfold decOut; rw [hr]
    by_cases hbn : bad < 0
    · have hbt : badT t at_ bad = at_ + k := by unfold badT; rw [hr]; simp [hbn]
      rw [ho, hbt]
      go_enter Tryz.func32, Tryz.ntmps32
      go_wp2_with fail
      refine (Decode_any t _ hl).mono ?_
      rintro e w1 ⟨rfl, hq⟩
      rw [ho]
      have k8 := h8.q hq
      have k9 := h9.q hq
      have c8 := k8.c
      have f8 := k8.f
      have c9 := k9.c
      have f9 := k9.f
      have m8 := k8.other hne (.int .i64 (at_ + k))
      have c8' := m8.c
      have f8' := m8.f
      have HQ := Lib.hid hq
      clear hq
      go_wp2_with fail
      go_ret
      refine ⟨rfl, m8.set _, (k9.set _).other (fun e => hne e.symm) _, GX.set (GX.set (GX.q HQ.out) (by simp) _ _) (by simp) _ _⟩
    · have hbt : badT t at_ bad = bad := by unfold badT; rw [hr]; simp [hbn]
      rw [ho, hbt]
      go_enter Tryz.func32, Tryz.ntmps32
      go_wp2_with fail
      refine (Decode_any t _ hl).mono ?_
      rintro e w1 ⟨rfl, hq⟩
      rw [ho]
      have k8 := h8.q hq
      have k9 := h9.q hq
      have c8 := k8.c
      have f8 := k8.f
      have c9 := k9.c
      have HQ := Lib.hid hq
      clear hq
      go_wp2_with fail
      go_ret
      refine ⟨rfl, k8.set _, k9.other (fun e => hne e.symm) _, GX.set (GX.q HQ.out) (by simp) _ _⟩
end Go.Proofs.YtlalpnnnnmcejaaGreatDoor
/- Plain: pieces between bytes; a text trimmed to nothing; runes that a test fits; small letters. -/
set_option linter.unusedVariables false
set_option linter.unusedSimpArgs false
namespace Go.Proofs.YtlalpnnnnmcejaaGreatDoor
open Go Go.RowKit
/-- A text's pieces between the bytes c. -/
def splitC (c : UInt8) : List UInt8 → List (List UInt8)
  | [] => [[]]
  | x :: r => if x = c then [] :: splitC c r else match splitC c r with | [] => [[x]] | h :: t => (x :: h) :: t
theorem splitC_ne (c : UInt8) (l : List UInt8) : splitC c l ≠ [] := by
  rcases l with _ | ⟨x, r⟩
  · simp [splitC]
  · unfold splitC; split
    · simp
    · split <;> simp
theorem splitK_one (c : UInt8) : ∀ l : List UInt8, Lib.splitK [c] 0 (l.count c) l = splitC c l := by
  intro l
  induction l with
  | nil => simp [Lib.splitK, splitC]
  | cons x r ih =>
    unfold splitC
    by_cases h : x = c
    · subst h
      rw [if_pos rfl, List.count_cons_self, Lib.splitK, index_one_cons, if_pos rfl, ← ih]
      simp
    · rw [if_neg h, List.count_cons_of_ne h, ← ih]
      have hge := index_one_ge c r
      rcases r.count c with _ | k
      · simp [Lib.splitK]
      · rw [Lib.splitK, Lib.splitK, index_one_cons, if_neg h]
        by_cases h1 : Lib.index r [c] = -1
        · simp [h1]
        · have e : (Lib.index r [c] + 1).toNat = (Lib.index r [c]).toNat + 1 := by omega
          have h2 : ¬ ((Lib.index r [c] + 1 == -1) = true) := by simp; omega
          have h3 : ¬ ((Lib.index r [c] == -1) = true) := by simp; omega
          rw [if_neg h1, if_neg h2, if_neg h3, e]
          simp [Nat.add_right_comm]
theorem splitB_one (c : UInt8) (l : List UInt8) : (Lib.splitB ⟨#[c]⟩ 0 (Lib.countB ⟨l.toArray⟩ ⟨#[c]⟩) ⟨l.toArray⟩).map Value.string = (splitC c l).map strV := by
  have h := Lib.splitB_data ⟨#[c]⟩ 0 (Lib.countB ⟨l.toArray⟩ ⟨#[c]⟩) ⟨l.toArray⟩
  have hk : Lib.countB ⟨l.toArray⟩ ⟨#[c]⟩ = l.count c := Lib.count_one c l
  rw [hk] at h ⊢
  have h' : (Lib.splitB ⟨#[c]⟩ 0 (l.count c) ⟨l.toArray⟩).map (·.data.toList) = splitC c l := h.trans (splitK_one c l)
  rw [← h', List.map_map]
  rfl
theorem splitC_count (c : UInt8) (l : List UInt8) : (splitC c l).length = l.count c + 1 := by
  induction l with
  | nil => simp [splitC]
  | cons x r ih =>
    unfold splitC
    by_cases h : x = c
    · subst h; rw [if_pos rfl, List.count_cons_self]; simp [ih]
    · rw [if_neg h, List.count_cons_of_ne h]
      have := splitC_ne c r
      rcases hs : splitC c r with _ | ⟨a, t⟩
      · exact absurd hs this
      · rw [hs] at ih; simpa using ih
theorem splitC_len (c : UInt8) (l : List UInt8) : ∀ p ∈ splitC c l, p.length ≤ l.length := by
  induction l with
  | nil => simp [splitC]
  | cons x r ih =>
    unfold splitC
    split
    · intro p hp
      rcases List.mem_cons.1 hp with rfl | hp
      · simp
      · have := ih p hp; simp; omega
    · rcases hs : splitC c r with _ | ⟨a, t⟩
      · simp
      · rw [hs] at ih
        intro p hp
        rcases List.mem_cons.1 hp with rfl | hp
        · have := ih a List.mem_cons_self; simp; omega
        · have := ih p (List.mem_cons_of_mem _ hp); simp; omega
theorem dropWhile_nil {α} (p : α → Bool) (l : List α) : l.dropWhile p = [] ↔ ∀ x ∈ l, p x = true := by
  induction l with
  | nil => simp
  | cons a r ih =>
    rw [List.dropWhile_cons]
    by_cases h : p a = true
    · simp [h, ih]
    · simp [h]
theorem trimS_nil (l cs : List UInt8) : Lib.trimS l cs = [] ↔ ∀ x ∈ l, cs.contains x = true := by
  unfold Lib.trimS Lib.trimLeftS Lib.trimRightS
  rw [dropWhile_nil]
  constructor
  · intro h
    have h2 : l.reverse.dropWhile (cs.contains ·) = [] := by
      rcases hd : l.reverse.dropWhile (cs.contains ·) with _ | ⟨a, t⟩
      · rfl
      · exfalso
        have ha : cs.contains a = true := h a (by rw [hd]; simp)
        have := List.head_dropWhile_not (p := (cs.contains ·)) (l := l.reverse) (by rw [hd]; simp)
        simp only [hd, List.head_cons] at this
        rw [ha] at this; cases this
    rw [dropWhile_nil] at h2
    intro x hx
    exact h2 x (by simpa using hx)
  · intro h x hx
    refine h x ?_
    have := List.mem_reverse.1 hx
    exact List.mem_reverse.1 ((List.dropWhile_suffix _).subset this)
theorem decode_high (s : ByteArray) (pos : Nat) (h : ¬ (s.get! pos).toNat < 128) : 127 ≤ (Utf8.decode s pos).1 := by
  unfold Utf8.decode
  simp only [Nat.add_zero]
  rw [if_neg h]
  unfold Utf8.runeError
  repeat' split
  all_goals simp_all
  all_goals omega
theorem decode_low (s : ByteArray) (pos : Nat) (h : (s.get! pos).toNat < 128) : Utf8.decode s pos = ((s.get! pos).toNat, 1) := by
  unfold Utf8.decode
  simp only [Nat.add_zero]
  rw [if_pos h]
theorem get_gB (l : List UInt8) (k : Nat) (h : k < l.length) : (ByteArray.mk l.toArray).get! k = gB l k := by
  show l.toArray[k]! = _
  simp [gB, List.getD, h]
theorem idx_from (p : Nat → Bool) (hp : ∀ r, 127 ≤ r → p r = true) (l : List UInt8) : ∀ f pos, l.length ≤ pos + f → (decide (0 ≤ Lib.idxFuncFrom p true ⟨l.toArray⟩ f pos) = (l.drop pos).any fun b => p b.toNat) := by
  have hsz : (ByteArray.mk l.toArray).size = l.length := rfl
  intro f
  induction f with
  | zero => intro pos h; rw [List.drop_of_length_le (by omega)]; simp [Lib.idxFuncFrom]
  | succ f ih =>
    intro pos h
    unfold Lib.idxFuncFrom
    by_cases hlt : pos < l.length
    · rw [if_pos (by rw [hsz]; exact hlt), drop_consB l pos hlt, List.any_cons]
      have hg := get_gB l pos hlt
      by_cases hb : (gB l pos).toNat < 128
      · rw [decode_low _ _ (by rw [hg]; exact hb), hg]
        by_cases hpp : p (gB l pos).toNat = true
        · rw [if_pos hpp, hpp]; simp
        · rw [if_neg hpp, ih (pos + 1) (by omega)]; simp [hpp]
      · rw [if_pos (hp _ (decode_high _ _ (by rw [hg]; exact hb)))]
        rw [hp _ (by omega)]
        simp
    · rw [if_neg (by rw [hsz]; exact hlt), List.drop_of_length_le (by omega)]; simp
theorem idx_any (p : Nat → Bool) (hp : ∀ r, 127 ≤ r → p r = true) (l : List UInt8) : decide (0 ≤ Lib.idxFunc p true ⟨l.toArray⟩) = l.any fun b => p b.toNat := by
  unfold Lib.idxFunc
  have := idx_from p hp l (ByteArray.mk l.toArray).size 0 (by show l.length ≤ 0 + l.length; omega)
  simpa using this
theorem lowerA_id (l : List UInt8) : Lib.toLowerA l = l ↔ ∀ b ∈ l, ¬ (65 ≤ b.toNat ∧ b.toNat ≤ 90) := by
  have h1 : ∀ n : Fin 256, (Lib.lowerB n.val.toUInt8 = n.val.toUInt8) ↔ ¬ (65 ≤ n.val.toUInt8.toNat ∧ n.val.toUInt8.toNat ≤ 90) := by decide +kernel
  have h2 : ∀ b : UInt8, Lib.lowerB b = b ↔ ¬ (65 ≤ b.toNat ∧ b.toNat ≤ 90) := fun b => by have := h1 ⟨b.toNat, b.toNat_lt⟩; simpa using this
  unfold Lib.toLowerA
  induction l with
  | nil => simp
  | cons x r ih =>
    simp only [List.map_cons, List.cons.injEq, List.forall_mem_cons]
    exact and_congr (h2 x) ih
end Go.Proofs.YtlalpnnnnmcejaaGreatDoor
/- uri.Bucket. -/
set_option linter.unusedVariables false
set_option linter.unusedSimpArgs false
namespace Go.Proofs.YtlalpnnnnmcejaaGreatDoor
open Go Go.RowKit
def badR (r : Nat) : Bool := decide (126 < r) || (!letterL r.toUInt8 && decide (r ≠ 45))
set_option maxRecDepth 100000 in
set_option maxHeartbeats 1000000 in
theorem bad_any (x : Nat) (hx : x ≤ 1114111) (w : World) : Calls Tryz.prog 42 #[.int .i32 (x : Int)] w fun e w' => e = .returned (.bool (badR x)) ∧ w' = w := by
  go_enter Tryz.func42, Tryz.ntmps42
  by_cases h : 126 < x
  · go_wp2_with fail
    all_goals (go_ret; exact ⟨by simp [badR, h], rfl⟩)
  · have hw : IntKind.u8.wrap (x : Int) = (x : Int) := by rw [IntKind.wrap_u8]; omega
    have hb : ((x.toUInt8).toNat : Int) = (x : Int) := by simp; omega
    have hL := fun w => letter_any x.toUInt8 w
    rw [hb] at hL
    go_wp2_with fail
    refine (hL _).mono ?_
    rintro e w1 ⟨rfl, rfl⟩
    rcases hl : letterL x.toUInt8 with _ | _
    · go_wp2_with fail
      all_goals
        go_ret
        refine ⟨?_, rfl⟩
        show Ending.returned (.bool _) = .returned (.bool _)
        refine congrArg _ (congrArg _ ?_)
        first
          | (rename (x : Int) = 45 => h45
             have : x = 45 := by omega
             simp [badR, hl, this])
          | (rename ¬ (x : Int) = 45 => h45
             have : ¬ x = 45 := by omega
             simp [badR, hl, this, h])
          | (have h5 : ((x : Int) != 45) = !decide (x = 45) := by by_cases h6 : x = 45 <;> simp [h6]; omega
             have h7 : ¬ (126 : Int) < (x : Int) := by omega
             simp [badR, hl, h, h5, h7])
    · go_wp2_with fail
      all_goals
        go_ret
        refine ⟨?_, rfl⟩
        show Ending.returned (.bool _) = .returned (.bool _)
        refine congrArg _ (congrArg _ ?_)
        have h7 : ¬ (126 : Int) < (x : Int) := by omega
        simp [badR, hl, h, h7]
theorem badR_high : ∀ r, 127 ≤ r → badR r = true := fun r h => by simp [badR]; exact .inl (by omega)
theorem enters_bucket : ∀ args w, (callFunc 42 args).run Tryz.prog w = .ok (.enter 42 args) w := enters_of Tryz.func42 (by kernel_rfl) rfl
theorem contains_bad (l : List UInt8) (w : World) : Calls Tryz.prog 41 #[.string ⟨l.toArray⟩, .func (.func 42) #[] #[]] w fun e w' => e = .returned (.bool (l.any fun b => badR b.toNat)) ∧ Q w w' := by
  refine (Tryz.strings_ContainsFunc_grows 42 #[] enters_bucket badR ⟨l.toArray⟩ w ?_).mono ?_
  · intro W x hx _
    refine (bad_any x hx W).mono ?_
    rintro e w' ⟨rfl, rfl⟩
    exact ⟨rfl, Below.refl _ _⟩
  · rintro e w' ⟨rfl, h⟩
    rw [idx_any badR badR_high]
    exact ⟨rfl, h⟩
theorem split_any (l : List UInt8) (c : UInt8) (w : World) (h : MaxL w) (hs : l.length < 4294967281) :
    Calls Tryz.prog 34 #[.string ⟨l.toArray⟩, .string ⟨#[c]⟩] w fun e w' => e = .returned (.slice (some ⟨w.heap.size, 0, none⟩) (splitC c l).length (splitC c l).length) ∧ StrsAt w' (some ⟨w.heap.size, 0, none⟩) (splitC c l).length (splitC c l) ∧ Q w w' := by
  obtain ⟨m, hm⟩ := h
  refine (Tryz.strings_Split ⟨l.toArray⟩ ⟨#[c]⟩ m w hs hm (by show 1 ≤ 1; omega)).mono ?_
  rintro e w' ⟨rfl, rfl⟩
  have hk : Lib.countB ⟨l.toArray⟩ ⟨#[c]⟩ + 1 = (splitC c l).length := by rw [splitC_count]; exact congrArg (· + 1) (Lib.count_one c l)
  rw [splitB_one, hk]
  exact ⟨rfl, StrsAt_new w _ _, (Q.refl w).alloc _⟩
def smallB (b : UInt8) : Bool := 97 ≤ b.toNat && b.toNat ≤ 122
def tenB (b : UInt8) : Bool := 48 ≤ b.toNat && b.toNat ≤ 57
def chrOk (b : UInt8) : Bool := smallB b || tenB b || b == 45
def labBad (l : List UInt8) : Bool := l.isEmpty || gB l 0 == 45 || gB l (l.length - 1) == 45
def labOk (l : List UInt8) : Bool := !labBad l && l.all chrOk
def numL (l : List UInt8) : Bool := l.all tenB
def bucketL (s : List UInt8) : Bool := decide (3 ≤ s.length) && decide (s.length ≤ 63) && (splitC 46 s).all labOk && (decide ((splitC 46 s).countP numL < (splitC 46 s).length) || decide ((splitC 46 s).length ≠ 4))
theorem chr_facts : ∀ b : UInt8, chrOk b = (!badR b.toNat && !(decide (65 ≤ b.toNat) && decide (b.toNat ≤ 90))) ∧ (badR b.toNat = false → b.toNat < 128) := by
  have h : ∀ n : Fin 256, chrOk n.val.toUInt8 = (!badR n.val.toUInt8.toNat && !(decide (65 ≤ n.val.toUInt8.toNat) && decide (n.val.toUInt8.toNat ≤ 90))) ∧ (badR n.val.toUInt8.toNat = false → n.val.toUInt8.toNat < 128) := by decide +kernel
  intro b
  have := h ⟨b.toNat, b.toNat_lt⟩
  simpa using this
theorem lower_test (l : List UInt8) : ((!(Lib.toLowerD l == l)) || l.any fun b => badR b.toNat) = !l.all chrOk := by
  rcases ha : l.any fun b => badR b.toNat with _ | _
  · have hb : ∀ b ∈ l, badR b.toNat = false := by simpa using ha
    rw [Lib.toLowerD_ascii l (fun b hm => (chr_facts b).2 (hb b hm)), Bool.or_false]
    congr 1
    rw [Bool.eq_iff_iff, beq_iff_eq, lowerA_id, List.all_eq_true]
    refine forall_congr' fun b => forall_congr' fun hm => ?_
    rw [(chr_facts b).1, hb b hm]
    simp
    omega
  · obtain ⟨b, hm, hb⟩ := List.any_eq_true.1 ha
    have : l.all chrOk = false := by
      rw [List.all_eq_false]
      exact ⟨b, hm, by rw [(chr_facts b).1, hb]; simp⟩
    rw [this]; simp
theorem ten_cut (b : UInt8) : [48, 49, 50, 51, 52, 53, 54, 55, 56, 57].contains b = tenB b := by
  have h : ∀ n : Fin 256, [48, 49, 50, 51, 52, 53, 54, 55, 56, 57].contains n.val.toUInt8 = tenB n.val.toUInt8 := by decide +kernel
  have := h ⟨b.toNat, b.toNat_lt⟩
  simpa using this
theorem trim_num (l : List UInt8) : (Lib.trimS l [48, 49, 50, 51, 52, 53, 54, 55, 56, 57] == []) = numL l := by
  rw [Bool.eq_iff_iff, beq_iff_eq, trimS_nil]
  unfold numL
  rw [List.all_eq_true]
  exact forall_congr' fun b => forall_congr' fun _ => by rw [ten_cut]
theorem trim_any (l : List UInt8) (w : World) (hl : l.length ≤ 9223372036854775807) : Calls Tryz.prog 39 #[.string ⟨l.toArray⟩, .string ⟨#[48, 49, 50, 51, 52, 53, 54, 55, 56, 57]⟩] w fun e w' => e = .returned (.string ⟨(Lib.trimS l [48, 49, 50, 51, 52, 53, 54, 55, 56, 57]).toArray⟩) ∧ Q w w' :=
  Any.strings_Trim_laid Tryz.lays160 (by kernel_rfl) ⟨l.toArray⟩ ⟨#[48, 49, 50, 51, 52, 53, 54, 55, 56, 57]⟩ w hl (by decide) (ascii_of_all (by decide))
theorem lower_any (l : List UInt8) (w : World) (hl : l.length < 35184372088832) (h : U13 w) : Calls Tryz.prog 40 #[.string ⟨l.toArray⟩] w fun e w' => e = .returned (.string ⟨(Lib.toLowerD l).toArray⟩) ∧ Q w w' :=
  Tryz.strings_ToLower_any ⟨l.toArray⟩ w hl h.cv h.ut
end Go.Proofs.YtlalpnnnnmcejaaGreatDoor
/- Target: what it hands back, plainly. -/
set_option linter.unusedVariables false
set_option linter.unusedSimpArgs false
namespace Go.Proofs.YtlalpnnnnmcejaaGreatDoor
open Go Go.RowKit
def badC (b : UInt8) : Bool := decide (b.toNat ≤ 32) || decide (126 < b.toNat) || b == 35
structure TSt where
  ps : List PairD
  at_ : Int
  bad : Int
def stepT (st : TSt) (part : List UInt8) : TSt :=
  if part = [] then ⟨st.ps, st.at_ + 1, st.bad⟩
  else if (cutB 61 part).2.2 then
    ⟨st.ps ++ [((decOut (cutB 61 part).1).1, (decOut (cutB 61 part).2.1).1)], st.at_ + ((cutB 61 part).1.length + 1) + ((cutB 61 part).2.1.length + 1), badT (cutB 61 part).2.1 (st.at_ + ((cutB 61 part).1.length + 1)) (badT (cutB 61 part).1 st.at_ st.bad)⟩
  else ⟨st.ps ++ [((decOut (cutB 61 part).1).1, [])], st.at_ + ((cutB 61 part).1.length + 1), badT (cutB 61 part).1 st.at_ st.bad⟩
def startT (p : List UInt8) : TSt := ⟨[], (p.length : Int) + 1, badT p 0 (-1)⟩
def runT (s : List UInt8) : TSt := (splitC 38 (cutB 63 s).2.1).foldl stepT (startT (cutB 63 s).1)
def tgtL (s : List UInt8) : List UInt8 × List PairD × Nat × Int :=
  if s.head? = some 47 then
    match s.findIdx? badC with
    | some i => ([], [], 53, (i : Int))
    | none => if 0 ≤ (runT s).bad then ([], [], 52, (runT s).bad) else ((decOut (cutB 63 s).1).1, (runT s).ps, 0, 0)
  else ([], [], 53, 0)
def sumU (ls : List (List UInt8)) : Nat := (ls.map fun l => l.length + 1).sum
theorem cutB_len (c : UInt8) (l : List UInt8) : ((cutB c l).2.2 = true → (cutB c l).1.length + 1 + (cutB c l).2.1.length = l.length) ∧ ((cutB c l).2.2 = false → (cutB c l).1 = l ∧ (cutB c l).2.1 = []) := by
  induction l with
  | nil => simp [cutB]
  | cons x r ih =>
    unfold cutB
    split
    · simp; omega
    · constructor
      · intro h; have := ih.1 h; simp; omega
      · intro h; have := ih.2 h; exact ⟨by simp [this.1], this.2⟩
theorem cutB_le (c : UInt8) (l : List UInt8) : (cutB c l).1.length + (cutB c l).2.1.length ≤ l.length := by
  have h := cutB_len c l
  rcases hb : (cutB c l).2.2 with _ | _
  · have := h.2 hb; rw [this.1, this.2]; simp
  · have := h.1 hb; omega
theorem stepT_at (st : TSt) (part : List UInt8) : (stepT st part).at_ = st.at_ + (part.length + 1) := by
  unfold stepT
  have h := cutB_len 61 part
  by_cases he : part = []
  · subst he; simp
  · rw [if_neg he]
    rcases hb : (cutB 61 part).2.2 with _ | _
    · have := (h.2 hb).1; simp [this]
    · have := h.1 hb; simp only [if_true]; omega
theorem badT_bd (t : List UInt8) (a b : Int) (h0 : 0 ≤ a) (h1 : -1 ≤ b) (h2 : b ≤ a) : -1 ≤ badT t a b ∧ badT t a b ≤ a + (t.length + 1) := by
  unfold badT
  rcases hr : (decR t).2 with _ | k
  · simp only; omega
  · have := decR_lt hr
    simp only
    split <;> omega
theorem stepT_bad (st : TSt) (part : List UInt8) (h0 : 0 ≤ st.at_) (h1 : -1 ≤ st.bad) (h2 : st.bad ≤ st.at_) : -1 ≤ (stepT st part).bad ∧ (stepT st part).bad ≤ (stepT st part).at_ := by
  unfold stepT
  by_cases he : part = []
  · rw [if_pos he]; simp only; omega
  · rw [if_neg he]
    have b1 := badT_bd (cutB 61 part).1 st.at_ st.bad h0 h1 h2
    rcases hb : (cutB 61 part).2.2 with _ | _
    · simp only [Bool.false_eq_true, if_false]; omega
    · simp only [if_true]
      have b2 := badT_bd (cutB 61 part).2.1 (st.at_ + ((cutB 61 part).1.length + 1)) _ (by omega) b1.1 b1.2
      omega
theorem foldT (ls : List (List UInt8)) : ∀ st : TSt, 0 ≤ st.at_ → -1 ≤ st.bad → st.bad ≤ st.at_ →
    (ls.foldl stepT st).at_ = st.at_ + sumU ls ∧ -1 ≤ (ls.foldl stepT st).bad ∧ (ls.foldl stepT st).bad ≤ (ls.foldl stepT st).at_ := by
  induction ls with
  | nil => intro st h0 h1 h2; simp [sumU]; omega
  | cons l r ih =>
    intro st h0 h1 h2
    have a := stepT_at st l
    have b := stepT_bad st l h0 h1 h2
    have := ih (stepT st l) (by omega) b.1 b.2
    simp only [List.foldl_cons, sumU, List.map_cons, List.sum_cons] at *
    omega
theorem sumU_take (ls : List (List UInt8)) (k : Nat) : sumU (ls.take k) ≤ sumU ls := by
  have : ls = ls.take k ++ ls.drop k := (List.take_append_drop k ls).symm
  have h : sumU ls = sumU (ls.take k) + sumU (ls.drop k) := by
    conv => lhs; rw [this]
    unfold sumU; rw [List.map_append, List.sum_append]
  omega
theorem len_sumU (ls : List (List UInt8)) : ls.length ≤ sumU ls := by
  induction ls with
  | nil => simp
  | cons a r ih => simp only [sumU, List.map_cons, List.sum_cons, List.length_cons] at *; omega
theorem part_sumU (ls : List (List UInt8)) : ∀ k, k < ls.length → (gL ls k).length + 1 ≤ sumU ls := by
  induction ls with
  | nil => intro k h; simp at h
  | cons a r ih =>
    intro k h
    rcases k with _ | k
    · simp [sumU, gL]
    · have := ih k (by simpa using h)
      have e : gL (a :: r) (k + 1) = gL r k := by simp [gL]
      rw [e]
      simp only [sumU, List.map_cons, List.sum_cons] at *; omega
theorem sumU_split (c : UInt8) (l : List UInt8) : sumU (splitC c l) = l.length + 1 := by
  induction l with
  | nil => simp [splitC, sumU]
  | cons x r ih =>
    unfold splitC
    split
    · unfold sumU at *; simp at *; omega
    · rcases hs : splitC c r with _ | ⟨h, t⟩
      · exact absurd hs (splitC_ne c r)
      · rw [hs] at ih; unfold sumU at *; simp at *; omega
theorem fold_snoc (ls : List (List UInt8)) (k : Nat) (h : k < ls.length) (st : TSt) : (ls.take (k + 1)).foldl stepT st = stepT ((ls.take k).foldl stepT st) (gL ls k) := by
  have e : gL ls k = ls[k] := by simp [gL, List.getD, h]
  rw [List.take_add_one, List.getElem?_eq_getElem h, List.foldl_append, e]; simp
theorem fold_len (ls : List (List UInt8)) : ∀ st : TSt, (ls.foldl stepT st).ps.length ≤ st.ps.length + ls.length := by
  induction ls with
  | nil => intro st; simp
  | cons l r ih =>
    intro st
    have := ih (stepT st l)
    have h2 : (stepT st l).ps.length ≤ st.ps.length + 1 := by
      unfold stepT; split
      · simp
      · split <;> simp
    simp only [List.foldl_cons, List.length_cons]; omega
theorem OwnU.x {w0 w w' : World} {v : Value} {l : List PairD} {S : List Nat} (h : OwnU w0 w v l) (hg : GX S w w') (hS : ∀ k ∈ S, k < w0.heap.size) : OwnU w0 w' v l := by
  refine ⟨h.1, ?_⟩
  rcases h.2 with h2 | ⟨g, cap, cur, hv, h1, h2, h3⟩
  · exact .inl h2
  · exact .inr ⟨g, cap, cur, hv, h1, hg.heap (fun hm => by have := hS g hm; omega) h2, h3⟩
theorem StrsAt.x {w w' : World} {N n : Nat} {ls : List (List UInt8)} {S : List Nat} (h : StrsAt w (some ⟨N, 0, none⟩) n ls) (hg : GX S w w') (hN : N ∉ S) : StrsAt w' (some ⟨N, 0, none⟩) n ls := by
  refine ⟨h.1, fun h0 => ?_⟩
  obtain ⟨ad, e, hc⟩ := h.2 h0
  refine ⟨ad, e, fun i hi => ?_⟩
  have := hc i hi
  injection e with e
  subst e
  rw [add_off] at this ⊢
  unfold World.cell? at this ⊢
  have hlt : N < w.heap.size := by
    rcases Nat.lt_or_ge N w.heap.size with h' | h'
    · exact h'
    · simp only [Array.getElem?_eq_none h'] at this; cases this
  rw [show (⟨N, 0 + i, none⟩ : Addr).block = N from rfl] at this ⊢
  rw [hg.block N hlt hN]; exact this
theorem find_take (l : List UInt8) (k : Nat) (h : k < l.length) (h1 : ∀ j, j < k → badC (gB l j) = false) (hb : badC (gB l k) = true) : l.findIdx? badC = some k := by
  rw [List.findIdx?_eq_some_iff_getElem]
  refine ⟨h, ?_, fun j hj => ?_⟩
  · have : gB l k = l[k] := by simp [gB, List.getD, h]
    rw [← this]; exact hb
  · have hj' : j < l.length := by omega
    have : gB l j = l[j] := by simp [gB, List.getD, hj']
    rw [← this, h1 j hj]; simp
theorem find_none (l : List UInt8) (h1 : ∀ j, j < l.length → badC (gB l j) = false) : l.findIdx? badC = none := by
  rw [List.findIdx?_eq_none_iff]
  intro x hx
  obtain ⟨j, hj, rfl⟩ := List.mem_iff_getElem.1 hx
  have : gB l j = l[j] := by simp [gB, List.getD, hj]
  rw [← this]; exact h1 j hj
end Go.Proofs.YtlalpnnnnmcejaaGreatDoor
