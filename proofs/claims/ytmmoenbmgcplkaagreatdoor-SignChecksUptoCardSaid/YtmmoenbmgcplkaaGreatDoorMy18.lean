/- Texts of this proof, laid into one: VaF, VaM, Sjn, Sjo, SgT, SgU. -/
import Derived.Test.YtmmoenbmgcplkaaGreatDoorMy17
set_option linter.unusedVariables false
set_option linter.unusedSimpArgs false
namespace Go.Proofs.YtmmoenbmgcplkaaGreatDoor
open Go Go.RowKit
theorem bl_lt : ∀ a b : List UInt8, Op.bytesLess a b = true ↔ a < b := by
  intro a
  induction a with
  | nil => intro b; cases b <;> simp [Op.bytesLess]
  | cons x a ih =>
    intro b
    cases b with
    | nil => simp [Op.bytesLess]
    | cons y b =>
      rw [Op.bytesLess, List.cons_lt_cons_iff]
      simp [ih]
theorem ltP_bl (a b : PairD) : ltOf pcmp a b = (Op.bytesLess a.1 b.1 || (a.1 == b.1 && Op.bytesLess a.2 b.2)) := by
  rw [Bool.eq_iff_iff, ltP_iff]
  simp [bl_lt]
theorem join_snoc (xs : List (List UInt8)) (x : List UInt8) (h : xs ≠ []) : Lib.join (xs ++ [x]) [38] = Lib.join xs [38] ++ (38 :: x) := by
  induction xs with
  | nil => exact absurd rfl h
  | cons a r ih =>
    rcases r with _ | ⟨b, r⟩
    · rw [List.singleton_append, join_cons, join_one, join_one]; simp
    · rw [List.cons_append, List.cons_append, join_cons, join_cons, ← List.cons_append, ih (by simp)]; simp
theorem gU_ins {ys : List PairD} {j : Nat} {x : PairD} (h : j ≤ ys.length) : gU (ys.take j ++ x :: ys.drop j) j = x := by
  have hl : (ys.take j).length = j := by simp; omega
  unfold gU
  rw [List.getD_eq_getElem?_getD, List.getElem?_append_right (by omega), hl]; simp
theorem gU_before {ys : List PairD} {j : Nat} {x : PairD} (h : j + 1 ≤ ys.length) : gU (ys.take (j + 1) ++ x :: ys.drop (j + 1)) j = gU ys j := by
  unfold gU
  rw [List.getD_eq_getElem?_getD, List.getD_eq_getElem?_getD, List.getElem?_append_left (by simp; omega), List.getElem?_take, if_pos (by omega)]
theorem ins_len (ys : List PairD) (j : Nat) (x : PairD) (h : j ≤ ys.length) : (ys.take j ++ x :: ys.drop j).length = ys.length + 1 := by simp; omega
theorem wpList_append_u2 {ops : Array Oper} {rest : List Oper} {o : Oper} {a : Act} {R : Exit → Act → World → Prop} (hgd : o.guard = none) (s x : Operand)
    (ho : o.op = .call { callee := .builtin .append, args := #[s, x], argTypes := #[22, 22] })
    (w0 W : World) (v : Value) (ps : List PairD) (p : PairD) (hs : a.eval s = v) (hown : OwnU w0 W v ps) (hx : a.eval x = .slice (some ⟨W.heap.size, 0, none⟩) 1 1) (hq : w0.heap.size ≤ W.heap.size) (hb : (ps.length + 1) * 32 ≤ 140737488355328)
    (h : ∀ v' w', OwnU w0 w' v' (ps ++ [p]) → W.grownBy w' v.ownBlock → (∀ b, v'.ownBlock = some b → v.ownBlock = some b ∨ W.heap.size ≤ b) → wpList Tryz.prog ops R rest (a.put o.dst v') w') : wpList Tryz.prog ops R (o :: rest) a (W.alloc (.cells (pairL p).toArray 37)) := by
  obtain ⟨i, hi, hz, hsz, hby⟩ := info_parts info_pair
  have hown1 : OwnU w0 (W.alloc (.cells (pairL p).toArray 37)) v ps := hown.q ((Q.refl W).alloc _)
  refine wpList_append_own_at (w := W.alloc (.cells (pairL p).toArray 37)) hgd s x 22 ho w0.heap.size 37 i _ 2 32 Tryz.underlying22 hi hz hsz hby rfl (by decide) v ps.length (cellsU ps) hs hown1 ⟨W.heap.size, 0, none⟩ 1 1 (pairL p) hx rfl ?_ ?_ (by unfold maxLen; omega) hb (by simp; omega) ?_
  · intro j u hj
    have e : (Addr.add ⟨W.heap.size, 0, none⟩ j) = ⟨W.heap.size, j, none⟩ := by unfold Addr.add; split <;> simp_all
    rw [e, cell_of_row _ _ _ _ _ _ (MapKept.heap_alloc W _).1]
    simpa using hj
  · intro u hu
    simp only [pairL, List.mem_cons, List.not_mem_nil, or_false] at hu
    rcases hu with rfl | rfl <;> rfl
  · intro v' w' h2 hg _ hb2
    refine h v' w' ?_ ((World.grownBy_alloc W _ _).trans hg) (fun b hbb => by
      rcases hb2 with h5 | h5
      · exact .inl (h5 ▸ hbb)
      · rw [h5] at hbb; injection hbb with hbb; exact .inr (by simp at hbb; omega))
    unfold OwnU; rw [cellsU_app, cellsU_one, List.length_append]; exact h2
set_option maxRecDepth 100000 in
set_option maxHeartbeats 4000000 in
theorem RCanon_any (A : Option Addr) (n cap : Nat) (ps : List PairD) (w : World) (h : PairsAt w A n ps) (hc : n ≤ cap) (hcap : cap ≤ 9223372036854775807) (hn1 : n ≤ 1100000) (hps : ∀ p ∈ ps, p.1.length ≤ 10000000 ∧ p.2.length ≤ 10000000) :
    Calls Tryz.prog 39 #[.slice A n cap] w fun e w' => e = .returned (.string ⟨(canonL ps).toArray⟩) ∧ Q w w' := by
  obtain rfl := h.1
  have HPS := Lib.hid hps
  have HP := Lib.hid h
  clear hps h
  go_enter Tryz.func39, Tryz.ntmps39
  go_wp2_with fail
  go_loopw [3, 4] (fun v i wr => ∃ (k : Nat) (ys : List PairD), k ≤ ps.length ∧ i = .int .i64 (k : Int) ∧ Hid (ys.length = k) ∧ Hid (OwnU w wr v ys) ∧ Hid (Q w wr) ∧ Hid (UpP ys ∧ ys.Perm ((ps.take k).map encP))) (fun _ i _ => ps.length - (intOf i).toNat)
  case atStart => exact ⟨0, [], by omega, rfl, Lib.hid rfl, Lib.hid (OwnU.nil _ _), Lib.hid (Q.refl _), Lib.hid ⟨List.Pairwise.nil, by simp⟩⟩
  case round =>
    obtain ⟨k, ys, hk, rfl, HYL, HO, HQ, HUP⟩ := hrel
    by_cases hlt : k < ps.length
    · have g1 : decide (k < ps.length) = true := by simpa using hlt
      obtain ⟨g, off, rfl, e0, e1⟩ := (HP.out.q HQ.out).at hlt
      obtain ⟨⟨x, y⟩, hxy⟩ : ∃ p, gU ps k = p := ⟨_, rfl⟩
      rw [hxy] at e0 e1
      simp only at e0 e1
      have HXY : Hid (x.length ≤ 10000000 ∧ y.length ≤ 10000000) := Lib.hid (by
        have hk2 : k < ps.length := hlt
        have e : gU ps k = ps[k] := by simp [gU, List.getD, hk2]
        have := HPS.out _ (List.getElem_mem hk2)
        rw [← e, hxy] at this; exact this)
      have HTK : Hid ((ps.take (k + 1)).map encP = (ps.take k).map encP ++ [encP (x, y)]) := Lib.hid (by rw [take_snocP ps k (by omega), hxy]; simp)
      clear hxy
      have d0 : ∀ m : QW wr.drew, m.val.cell? ⟨g, off + k * 2, none⟩ = some (.string ⟨x.toArray⟩) := fun m => m.cell ((Q.refl _).drew.cell e0)
      have d1 : ∀ m : QW wr.drew, m.val.cell? ⟨g, off + k * 2 + 1, none⟩ = some (.string ⟨y.toArray⟩) := fun m => m.cell ((Q.refl _).drew.cell e1)
      go_upto_region 5 with (fail)
      refine wp_flo [0, 1, 2, 3, 4, 6, 7, 8, 9, 10] [(5, []), (11, [12])] 13 [14] [[0, 1, 2, 3, 4, 5, 6, 7, 8, 9, 10, 11, 12]] (.cells (pairL ([], [])).toArray 37) (by kernel_rfl) (by kernel_rfl) (fun ρ W => by kernel_rfl) ?_
      simp only [wpCh, opsL, List.map_cons, List.map_nil, Array.getD_eq_getD_getElem?, List.getElem?_toArray, List.getElem?_cons_succ, List.getElem?_cons_zero, Option.getD_some]
      (repeat (go_big_quiet_step (fail)))
      refine wpQuiet_nil ?_
      clear d0 d1 e0 e1
      obtain ⟨wd, hwd⟩ : ∃ W, wr.drew = W := ⟨_, rfl⟩
      have HQd : Hid (Q wr wd) := Lib.hid (by rw [← hwd]; exact (Q.refl wr).drew)
      rw [hwd]
      clear hwd
      intro W hW K hK
      have HQ5 := Lib.hid (HQd.out.trans hW)
      clear hW
      go_wp2_with fail
      refine (REncode_any x true _ (by have := HXY.out.1; omega)).mono ?_
      rintro e W6 ⟨rfl, hq6⟩
      have HQ6 := Lib.hid (HQ5.out.trans hq6)
      go_wp2_with fail
      refine hK.out _ _ hq6 ?_
      clear hq6 hK K HQ5
      (repeat (go_big_quiet_step (fail)))
      refine wpQuiet_nil ?_
      intro W hW K hK
      have HQ7 := Lib.hid (HQ6.out.trans hW)
      clear hW HQ6
      go_wp2_with fail
      refine (REncode_any y true _ (by have := HXY.out.2; omega)).mono ?_
      rintro e W8 ⟨rfl, hq8⟩
      have HQ8 := Lib.hid (HQ7.out.trans hq8)
      go_wp2_with fail
      refine hK.out _ _ hq8 ?_
      clear hq8 hK K HQ7
      (repeat (go_big_quiet_step (fail)))
      refine wpQuiet_nil ?_
      intro W' b5 hW hb hN2
      have HQ9 := Lib.hid (HQ8.out.trans hW)
      obtain ⟨X, hX⟩ : ∃ X, encP (x, y) = X := ⟨_, rfl⟩
      have hX1 : encL true x = X.1 := by rw [← hX]; rfl
      have hX2 : encL true y = X.2 := by rw [← hX]; rfl
      rw [hX] at HTK
      rw [hX1, hX2]
      obtain ⟨xn, xv⟩ := X
      clear hX hX1 hX2 hW
      have hNb : wr.heap.size ≤ b5 := Nat.le_trans HQd.out.size hN2
      have hpb : PB (W'.setRow b5 (pairL (xn, xv)).toArray) b5 (xn, xv) := setRow_heap W' _ _ _ _ _ hb
      have hqs : Q wr (W'.setRow b5 (pairL (xn, xv)).toArray) := Q.setRow HQ9.out hNb _
      have HPB := Lib.hid hpb
      have HQS := Lib.hid hqs
      have HO5 := Lib.hid (HO.out.q hqs)
      have HW5 := Lib.hid (HQ.out.trans hqs)
      have HNE : Hid (∀ g, u3.ownBlock = some g → g ≠ b5) := Lib.hid (fun g hg e => by have := (HO.out.block hg).2.1; omega)
      have hwb : w.heap.size ≤ b5 := Nat.le_trans HQ.out.size hNb
      clear hpb hqs hN2 HQ9 HQ8 HQd HO HQ
      go_wp2_with (refine wpList_store_row rfl 37 _ _ rfl b5 (pairL (xn, xv)).toArray (by rfl) (by rfl) 37 _ hb infoP rfl (pairL_one _) ?_)
      refine NoPanic.normal ?_
      obtain ⟨w8, hw8⟩ : ∃ X, W'.setRow b5 (pairL (xn, xv)).toArray = X := ⟨_, rfl⟩
      rw [hw8] at HPB HQS HO5 HW5 ⊢
      clear hw8 hb hNb HQS
      go_upto_region 6 with (fail)
      iterate 4 go_step
      refine wpList_load_row rfl 37 (.tmp 5) rfl b5 rfl _ _ _ _ HPB.out Tryz.underlying37 rfl infoP ?_
      simp only [pairL, Act.put, List.setIfInBounds_toArray, List.set_cons_succ, List.set_cons_zero]
      iterate 3 go_step
      refine wpList_append_u2 rfl (.tmp 28) (.tmp 30) rfl w w8 u3 ys (xn, xv) rfl HO5.out rfl HW5.out.size (by have := HYL.out; omega) ?_
      intro v9 w9 ho9 hg9 hfr9
      have hq9 : Q w w9 := gb_q_own hg9 HW5.out (fun b hb => (HO5.out.block hb).1)
      have hp9 : PB w9 b5 (xn, xv) := by
        unfold PB; rw [hg9.block b5 (lt_of_heap HPB.out) (fun e => HNE.out _ e.symm rfl)]; exact HPB.out
      have hns : v9.ownBlock ≠ some b5 := fun e => by
        rcases hfr9 _ e with h1 | h1
        · exact HNE.out _ h1 rfl
        · have := lt_of_heap HPB.out; omega
      obtain ⟨A2, c2, rfl, hc2, _⟩ := ho9.pairs
      have hl9 : (ys ++ [(xn, xv)]).length = k + 1 := by rw [List.length_append, HYL.out]; rfl
      rw [hl9] at hc2 ho9 hns ⊢
      have hc2m := ho9.cap (by omega)
      have HO9 : Hid (OwnU w w9 (.slice A2 (k + 1) c2) (ys.take k ++ (xn, xv) :: ys.drop k)) := Lib.hid (by
        rw [← HYL.out, List.take_length, List.drop_length]; rw [HYL.out]; exact ho9)
      have HQ9 := Lib.hid hq9
      have HP9 := Lib.hid hp9
      have HNS := Lib.hid hns
      clear ho9 hq9 hp9 hns hg9 hfr9 hl9 HO5 HW5 HPB HNE
      go_wp2_with fail
      go_loopw [6] (fun i wr => ∃ j : Nat, j ≤ k ∧ i = .int .i64 (j : Int) ∧ Hid (OwnU w wr (.slice A2 (k + 1) c2) (ys.take j ++ (xn, xv) :: ys.drop j)) ∧ Hid (Q w wr) ∧ Hid (PB wr b5 (xn, xv)) ∧ Hid (∀ m, j ≤ m → m < ys.length → leP (xn, xv) (gU ys m) = true)) (fun i _ => (intOf i).toNat)
      case atStart => exact ⟨k, by omega, by go_num, HO9, HQ9, HP9, Lib.hid (fun m h1 h2 => by have := HYL.out; omega)⟩
      case round =>
        clear HO9 HQ9 HP9
        obtain ⟨j, hj, rfl, HO, HQ, HB, HL⟩ := hrel
        rcases j with _ | m
        · have HDone : Hid (UpP (ys.take 0 ++ (xn, xv) :: ys.drop 0) ∧ (ys.take 0 ++ (xn, xv) :: ys.drop 0).Perm ((ps.take (k + 1)).map encP)) := Lib.hid
            ⟨ins_up HUP.out.1 (by omega) (fun m h1 h2 => HL.out m h1 h2) (.inl rfl), (ins_perm ys 0 (xn, xv)).trans (by rw [HTK.out]; exact HUP.out.2.append_right _)⟩
          have HLen : Hid ((ys.take 0 ++ (xn, xv) :: ys.drop 0).length = k + 1) := Lib.hid (by rw [ins_len ys 0 _ (by omega), HYL.out])
          clear HL HUP HTK
          rw [show ((0 : Nat) : Int) = 0 from rfl]
          go_upto_region 8 with (fail)
          go_region
          go_wp2_with fail
          go_roundw
          case rel => exact ⟨k + 1, _, by omega, by go_num, HLen, Lib.hid (HO.out.q (Q.refl _).drew), Lib.hid HQ.out.drew, HDone⟩
          case measure => simp [intOf]; omega
        · have hmk : m < k := by omega
          have hyl := HYL.out
          obtain ⟨g2, rfl, e0, e1, hg2, hg2l⟩ := HO.out.el (j := m + 1) (by rw [ins_len ys _ _ (by omega)]; omega)
          obtain ⟨g3, hg3, e2, e3, _, _⟩ := HO.out.el (j := m) (by rw [ins_len ys _ _ (by omega)]; omega)
          cases hg3
          rw [gU_ins (by omega)] at e0 e1
          rw [gU_before (by omega)] at e2 e3
          clear hyl
          have HST : Hid (((ys.take (m + 1) ++ (xn, xv) :: ys.drop (m + 1)).set (m + 1) (gU ys m)).set m (xn, xv) = ys.take m ++ (xn, xv) :: ys.drop m) := Lib.hid (ins_step ys m (xn, xv) (by have := HYL.out; omega))
          obtain ⟨⟨yn, yv⟩, hy⟩ : ∃ p, gU ys m = p := ⟨_, rfl⟩
          rw [hy] at e2 e3 HST
          simp only at e0 e1 e2 e3
          have e0' : wr.cell? ⟨g2, m * 2 + 2, none⟩ = some (.string ⟨xn.toArray⟩) := by rw [show m * 2 + 2 = (m + 1) * 2 by omega]; exact e0
          have hlt := ltP_bl (xn, xv) (yn, yv)
          simp only at hlt
          have HY := Lib.hid hy
          clear hy
          have hyl2 : Hid (ys.length = k) := HYL
          rcases hb1 : Op.bytesLess xn yn with _ | _
          · rcases hb2 : (xn == yn) with _ | _
            · have hno : ltOf pcmp (xn, xv) (yn, yv) = false := by rw [hlt]; simp [hb1, hb2]
              have HDone : Hid (UpP (ys.take (m + 1) ++ (xn, xv) :: ys.drop (m + 1)) ∧ (ys.take (m + 1) ++ (xn, xv) :: ys.drop (m + 1)).Perm ((ps.take (k + 1)).map encP)) := Lib.hid
                ⟨ins_up HUP.out.1 (by have := HYL.out; omega) (fun q h1 h2 => HL.out q h1 h2) (.inr (by show leP (gU ys m) (xn, xv) = true; rw [HY.out]; unfold leP; rw [hno]; rfl)), (ins_perm ys (m + 1) (xn, xv)).trans (by rw [HTK.out]; exact HUP.out.2.append_right _)⟩
              have HLen : Hid ((ys.take (m + 1) ++ (xn, xv) :: ys.drop (m + 1)).length = k + 1) := Lib.hid (by rw [ins_len ys (m + 1) _ (by have := HYL.out; omega), HYL.out])
              clear HL HUP HTK HST HY hno hlt
              go_upto_region 8 with (fail)
              go_region
              clear e0 e0' e1 e2 e3
              go_wp2_with fail
              go_roundw
              case rel => exact ⟨k + 1, _, by omega, by go_num, HLen, Lib.hid (HO.out.q (Q.refl _).drew), Lib.hid HQ.out.drew, HDone⟩
              case measure => simp [intOf]; omega
            · rcases hb3 : Op.bytesLess xv yv with _ | _
              · have hno : ltOf pcmp (xn, xv) (yn, yv) = false := by rw [hlt]; simp [hb1, hb3]
                have HDone : Hid (UpP (ys.take (m + 1) ++ (xn, xv) :: ys.drop (m + 1)) ∧ (ys.take (m + 1) ++ (xn, xv) :: ys.drop (m + 1)).Perm ((ps.take (k + 1)).map encP)) := Lib.hid
                  ⟨ins_up HUP.out.1 (by have := HYL.out; omega) (fun q h1 h2 => HL.out q h1 h2) (.inr (by show leP (gU ys m) (xn, xv) = true; rw [HY.out]; unfold leP; rw [hno]; rfl)), (ins_perm ys (m + 1) (xn, xv)).trans (by rw [HTK.out]; exact HUP.out.2.append_right _)⟩
                have HLen : Hid ((ys.take (m + 1) ++ (xn, xv) :: ys.drop (m + 1)).length = k + 1) := Lib.hid (by rw [ins_len ys (m + 1) _ (by have := HYL.out; omega), HYL.out])
                clear HL HUP HTK HST HY hno hlt
                go_upto_region 8 with (fail)
                go_region
                clear e0 e0' e1 e2 e3
                go_wp2_with fail
                go_roundw
                case rel => exact ⟨k + 1, _, by omega, by go_num, HLen, Lib.hid (HO.out.q (Q.refl _).drew), Lib.hid HQ.out.drew, HDone⟩
                case measure => simp [intOf]; omega
              · have hyes : ltOf pcmp (xn, xv) (yn, yv) = true := by rw [hlt]; simp [hb2, hb3]
                have HL2 : Hid (∀ q, m ≤ q → q < ys.length → leP (xn, xv) (gU ys q) = true) := Lib.hid (fun q h1 h2 => by
                  by_cases e : q = m
                  · subst e; rw [HY.out]; unfold leP; rw [Sort.SWO.asymm swo_pair hyes]; rfl
                  · exact HL.out q (by omega) h2)
                clear HL HY hyes hlt
                go_upto_region 8 with (fail)
                go_region
                obtain ⟨wb, hwb⟩ : ∃ W, wr.drew = W := ⟨_, rfl⟩
                have hqb : Q wr wb := by rw [← hwb]; exact (Q.refl wr).drew
                rw [hwb]
                clear hwb
                have f2 := hqb.cell e2
                have f3 := hqb.cell e3
                have HOb := Lib.hid (HO.out.q hqb)
                have HQb := Lib.hid (HQ.out.trans hqb)
                have HBb : Hid (PB wb b5 (xn, xv)) := Lib.hid (hqb.block HB.out)
                have hgN : g2 ≠ b5 := fun e => HNS.out (by subst e; rfl)
                clear e0 e0' e1 e2 e3 hqb HO HQ HB
                obtain ⟨g4, hg4, hgs, hth, ho9, hg9⟩ := HOb.out.setU (m + 1) (by omega) (yn, yv)
                cases hg4
                have HO9 := Lib.hid ho9
                have hq9 : Q w (wb.setCells g2 ((m + 1) * 2) (pairL (yn, yv))) := Below.grown HQb.out hg9 HQb.out.size (fun b hb => by cases hb; exact hg2)
                have HQ9 := Lib.hid hq9
                have HB9 : Hid (PB (wb.setCells g2 ((m + 1) * 2) (pairL (yn, yv))) b5 (xn, xv)) := Lib.hid (by
                  unfold PB; rw [hg9.block b5 (lt_of_heap HBb.out) (fun e => hgN (by first | exact Option.some.inj e | exact (Option.some.inj e).symm))]; exact HBb.out)
                clear ho9 hg9 hq9 hgs HOb HQb HBb
                go_upto_region 10 with (fail)
                iterate 25 go_step
                refine wpList_store_mid rfl 37 (.tmp 88) (.tmp 87) rfl g2 ((m + 1) * 2) (pairL (yn, yv)).toArray (by rfl) (by rfl) hth infoP (pairL_one _) ?_
                clear hth f2 f3
                go_upto_region 11 with (fail)
                obtain ⟨W6, hW6⟩ : ∃ W, wb.setCells g2 ((m + 1) * 2) (pairL (yn, yv)) = W := ⟨_, rfl⟩
                rw [hW6] at HO9 HQ9 HB9
                have hW6b : wb.setCells g2 ((m + 1) * 2) (pairL (yn, yv)).toArray.toList = W6 := hW6
                first | rw [hW6] | rw [hW6b]
                clear hW6 hW6b
                have c0 := HB9.out.c0
                have c1 := HB9.out.c1
                simp only at c0 c1
                obtain ⟨g5, hg5, hgs5, hth5, ho10, hg10⟩ := HO9.out.setU m (by omega) (xn, xv)
                cases hg5
                rw [HST.out] at ho10
                have HO10 := Lib.hid ho10
                have HQ10 := Lib.hid (Below.grown HQ9.out hg10 HQ9.out.size (fun b hb => by cases hb; exact hg2) : Q w _)
                have HB10 : Hid (PB (W6.setCells g2 (m * 2) (pairL (xn, xv))) b5 (xn, xv)) := Lib.hid (by
                  unfold PB; rw [hg10.block b5 (lt_of_heap HB9.out) (fun e => hgN (by first | exact Option.some.inj e | exact (Option.some.inj e).symm))]; exact HB9.out)
                clear ho10 hg10 hgs5 HO9 HQ9 HB9
                simp only [Act.put, List.setIfInBounds_toArray, List.set_cons_succ, List.set_cons_zero]
                iterate 16 go_step
                refine wpList_store_mid rfl 37 (.tmp 93) (.tmp 92) rfl g2 (m * 2) (pairL (xn, xv)).toArray (by rfl) (by rfl) hth5 infoP (pairL_one _) ?_
                clear hth5 c0 c1
                go_wp2_with fail
                go_roundw
                case rel => exact ⟨m, by omega, by go_num, HO10, HQ10, HB10, HL2⟩
                case measure => simp [intOf]
          · have hyes : ltOf pcmp (xn, xv) (yn, yv) = true := by rw [hlt]; simp [hb1]
            have HL2 : Hid (∀ q, m ≤ q → q < ys.length → leP (xn, xv) (gU ys q) = true) := Lib.hid (fun q h1 h2 => by
              by_cases e : q = m
              · subst e; rw [HY.out]; unfold leP; rw [Sort.SWO.asymm swo_pair hyes]; rfl
              · exact HL.out q (by omega) h2)
            clear HL HY hyes hlt
            go_upto_region 8 with (fail)
            go_region
            obtain ⟨wb, hwb⟩ : ∃ W, wr.drew = W := ⟨_, rfl⟩
            have hqb : Q wr wb := by rw [← hwb]; exact (Q.refl wr).drew
            rw [hwb]
            clear hwb
            have f2 := hqb.cell e2
            have f3 := hqb.cell e3
            have HOb := Lib.hid (HO.out.q hqb)
            have HQb := Lib.hid (HQ.out.trans hqb)
            have HBb : Hid (PB wb b5 (xn, xv)) := Lib.hid (hqb.block HB.out)
            have hgN : g2 ≠ b5 := fun e => HNS.out (by subst e; rfl)
            clear e0 e0' e1 e2 e3 hqb HO HQ HB
            obtain ⟨g4, hg4, hgs, hth, ho9, hg9⟩ := HOb.out.setU (m + 1) (by omega) (yn, yv)
            cases hg4
            have HO9 := Lib.hid ho9
            have hq9 : Q w (wb.setCells g2 ((m + 1) * 2) (pairL (yn, yv))) := Below.grown HQb.out hg9 HQb.out.size (fun b hb => by cases hb; exact hg2)
            have HQ9 := Lib.hid hq9
            have HB9 : Hid (PB (wb.setCells g2 ((m + 1) * 2) (pairL (yn, yv))) b5 (xn, xv)) := Lib.hid (by
              unfold PB; rw [hg9.block b5 (lt_of_heap HBb.out) (fun e => hgN (by first | exact Option.some.inj e | exact (Option.some.inj e).symm))]; exact HBb.out)
            clear ho9 hg9 hq9 hgs HOb HQb HBb
            go_upto_region 10 with (fail)
            iterate 25 go_step
            refine wpList_store_mid rfl 37 (.tmp 88) (.tmp 87) rfl g2 ((m + 1) * 2) (pairL (yn, yv)).toArray (by rfl) (by rfl) hth infoP (pairL_one _) ?_
            clear hth f2 f3
            go_upto_region 11 with (fail)
            obtain ⟨W6, hW6⟩ : ∃ W, wb.setCells g2 ((m + 1) * 2) (pairL (yn, yv)) = W := ⟨_, rfl⟩
            rw [hW6] at HO9 HQ9 HB9
            have hW6b : wb.setCells g2 ((m + 1) * 2) (pairL (yn, yv)).toArray.toList = W6 := hW6
            first | rw [hW6] | rw [hW6b]
            clear hW6 hW6b
            have c0 := HB9.out.c0
            have c1 := HB9.out.c1
            simp only at c0 c1
            obtain ⟨g5, hg5, hgs5, hth5, ho10, hg10⟩ := HO9.out.setU m (by omega) (xn, xv)
            cases hg5
            rw [HST.out] at ho10
            have HO10 := Lib.hid ho10
            have HQ10 := Lib.hid (Below.grown HQ9.out hg10 HQ9.out.size (fun b hb => by cases hb; exact hg2) : Q w _)
            have HB10 : Hid (PB (W6.setCells g2 (m * 2) (pairL (xn, xv))) b5 (xn, xv)) := Lib.hid (by
              unfold PB; rw [hg10.block b5 (lt_of_heap HB9.out) (fun e => hgN (by first | exact Option.some.inj e | exact (Option.some.inj e).symm))]; exact HB9.out)
            clear ho10 hg10 hgs5 HO9 HQ9 HB9
            simp only [Act.put, List.setIfInBounds_toArray, List.set_cons_succ, List.set_cons_zero]
            iterate 16 go_step
            refine wpList_store_mid rfl 37 (.tmp 93) (.tmp 92) rfl g2 (m * 2) (pairL (xn, xv)).toArray (by rfl) (by rfl) hth5 infoP (pairL_one _) ?_
            clear hth5 c0 c1
            go_wp2_with fail
            go_roundw
            case rel => exact ⟨m, by omega, by go_num, HO10, HQ10, HB10, HL2⟩
            case measure => simp [intOf]
    · obtain rfl : k = ps.length := by omega
      rw [List.take_length] at HUP
      have HS : Hid (ys = sortP (ps.map encP)) := Lib.hid (up_sortP HUP.out.1 HUP.out.2)
      have HCL : Hid (canonL ps = Lib.join (ys.map joinE) [38]) := Lib.hid (by unfold canonL partsL; rw [HS.out])
      have HBD : Hid (∀ p ∈ ys, p.1.length ≤ 30000000 ∧ p.2.length ≤ 30000000) := Lib.hid (fun p hp => by
        have hp' : p ∈ ps.map encP := HUP.out.2.mem_iff.1 hp
        obtain ⟨q, hq, rfl⟩ := List.mem_map.1 hp'
        have h1 := encL_le true q.1
        have h2 := encL_le true q.2
        have h3 := HPS.out q hq
        constructor
        · show (encL true q.1).length ≤ _; omega
        · show (encL true q.2).length ≤ _; omega)
      obtain ⟨A2, c2, hv2, hc2, hp2⟩ := HO.out.pairs
      rw [HYL.out] at hv2 hc2 hp2
      subst hv2
      have HP2 := Lib.hid hp2
      clear hp2 HPS HP hlt hk hcap hc HUP HS
      go_wp2_with fail
      go_loopw [7, 8] (fun sv i w2 => ∃ (q : Nat) (S : List UInt8), q ≤ ps.length ∧ i = .int .i64 (q : Int) ∧ sv = .string ⟨S.toArray⟩ ∧ S.length ≤ q * 60000003 ∧ Hid (S = Lib.join ((ys.take q).map joinE) [38]) ∧ Hid (Q wr w2)) (fun _ i _ => ps.length - (intOf i).toNat)
      case atStart => exact ⟨0, [], by omega, rfl, rfl, by simp, Lib.hid (by simp [join_nil]), Lib.hid (Q.refl _)⟩
      case round =>
        obtain ⟨q, S, hq, rfl, rfl, hSL, HS, HQ2⟩ := hrel
        rename World => wz
        by_cases hlt : q < ps.length
        · have g1 : decide (q < ps.length) = true := by simpa using hlt
          obtain ⟨g, off, rfl, e0, e1⟩ := (HP2.out.q HQ2.out).at hlt
          obtain ⟨⟨x, y⟩, hxy⟩ : ∃ p, gU ys q = p := ⟨_, rfl⟩
          rw [hxy] at e0 e1
          simp only at e0 e1
          have hxl : x.length ≤ 30000000 ∧ y.length ≤ 30000000 := by
            have hk2 : q < ys.length := by rw [HYL.out]; omega
            have e : gU ys q = ys[q] := by simp [gU, List.getD, hk2]
            have := HBD.out _ (List.getElem_mem hk2)
            rw [← e, hxy] at this; exact this
          obtain ⟨hx3, hy3⟩ := hxl
          have HTK : Hid ((ys.take (q + 1)).map joinE = (ys.take q).map joinE ++ [joinE (x, y)]) := Lib.hid (by rw [take_snocP ys q (by rw [HYL.out]; omega), hxy]; simp)
          clear hxy
          have hSB : S.length ≤ 70000000000000 := by omega
          by_cases hq0 : q = 0
          · subst hq0
            have HN : Hid (Lib.join ((ys.take (0 + 1)).map joinE) [38] = S ++ (x ++ 61 :: y)) := Lib.hid (by
              have hS := HS.out
              rw [List.take_zero, List.map_nil, join_nil] at hS
              rw [HTK.out, List.take_zero, List.map_nil, List.nil_append, join_one, hS]; rfl)
            clear HTK HS
            rw [show ((0 : Nat) : Int) = 0 from rfl]
            rw [Nat.zero_mul, Nat.add_zero] at e0 e1
            go_upto_region 18 with (fail)
            go_region
            clear e0 e1
            go_wp2_with fail
            go_roundw
            case rel => exact ⟨0 + 1, S ++ (x ++ 61 :: y), by omega, by go_num, by simp, by simp only [List.length_append, List.length_cons]; omega, Lib.hid HN.out.symm, Lib.hid HQ2.out.drew⟩
            case measure => simp [intOf]; try omega
          · have hqi : (0 : Int) < (q : Int) := by omega
            have HN : Hid (Lib.join ((ys.take (q + 1)).map joinE) [38] = S ++ (38 :: (x ++ 61 :: y))) := Lib.hid (by
              rw [HTK.out, join_snoc _ _ (by
                intro e
                have := congrArg List.length e
                simp only [List.length_map, List.length_take, List.length_nil] at this
                have := HYL.out
                omega), ← HS.out]; rfl)
            clear HTK HS hq0
            go_upto_region 18 with (fail)
            go_region
            clear e0 e1
            go_wp2_with fail
            go_roundw
            case rel => exact ⟨q + 1, S ++ (38 :: (x ++ 61 :: y)), by omega, by go_num, by simp, by simp only [List.length_append, List.length_cons]; omega, Lib.hid HN.out.symm, Lib.hid HQ2.out.drew⟩
            case measure => simp [intOf]; try omega
        · obtain rfl : q = ps.length := by omega
          have HR : Hid (canonL ps = S) := Lib.hid (by rw [HCL.out, HS.out, List.take_of_length_le (by rw [HYL.out]; omega)])
          clear HS hSL
          go_wp2_with fail
          go_ret
          rw [HR.out]
          exact ⟨rfl, HQ.out.trans HQ2.out⟩
end Go.Proofs.YtmmoenbmgcplkaaGreatDoor
set_option linter.unusedVariables false
set_option linter.unusedSimpArgs false
namespace Go.Proofs.YtmmoenbmgcplkaaGreatDoor
open Go Go.RowKit
def markP : PairD := ([109, 97, 114, 107], [])
theorem gU_end (ps : List PairD) (p : PairD) : gU (ps ++ [p]) ps.length = p := by simp [gU]
end Go.Proofs.YtmmoenbmgcplkaaGreatDoor
set_option linter.unusedVariables false
set_option linter.unusedSimpArgs false
namespace Go.Proofs.YtmmoenbmgcplkaaGreatDoor
open Go Go.RowKit
set_option maxRecDepth 100000 in
set_option maxHeartbeats 4000000 in
theorem RSame_true (r : ReqD) (A1 A2 : Option Addr) (n c1 c2 : Nat) (w : World) (h1 : PairsAt w A1 n r.fs) (h2 : PairsAt w A2 n r.fs) (hn : n ≤ 10000000) :
    Calls Tryz.prog 21 #[.agg (reqC r A1 n c1).toArray, .agg (reqC r A2 n c2).toArray] w fun e w' => e = .returned (.bool true) ∧ Q w w' := by
  have H1 := Lib.hid h1
  have H2 := Lib.hid h2
  have HNL := Lib.hid h1.1
  obtain ⟨N, w1, hN, e1, hb1, hq1⟩ : ∃ N w1, w.heap.size = N ∧ w.alloc (.cells (reqV r (.slice A1 n c1)).toArray 24) = w1 ∧ RB w1 N r (.slice A1 n c1) ∧ Q w w1 := ⟨_, _, rfl, rfl, RB.new w r _, (Q.refl w).alloc _⟩
  obtain ⟨w2, hN1, e2, hb2, hb3, hq2⟩ : ∃ w2, w1.heap.size = N + 1 ∧ w1.alloc (.cells (reqV r (.slice A2 n c2)).toArray 24) = w2 ∧ RB w2 N r (.slice A1 n c1) ∧ RB w2 (N + 1) r (.slice A2 n c2) ∧ Q w w2 := by
    have hs1 : w1.heap.size = N + 1 := by rw [← e1, ← hN]; show (w.heap.push _).size = _; simp
    refine ⟨_, hs1, rfl, hb1.q ((Q.refl w1).alloc _), ?_, hq1.alloc _⟩
    rw [← hs1]; exact RB.new w1 r _
  have HB := Lib.hid hb2
  have HC := Lib.hid hb3
  have HQ := Lib.hid hq2
  clear h1 h2 hb1 hq1 hb2 hb3 hq2
  obtain ⟨m, tg, minor, fs, body, close⟩ := r
  simp only [reqV] at e1 e2
  simp only at HNL
  unfold reqC
  obtain ⟨b0, b1, b2, b3, b4, b5⟩ := HB.out.c
  obtain ⟨c0, d1, d2, d3, d4, d5⟩ := HC.out.c
  go_enter Tryz.func21, Tryz.ntmps21
  go_wp2_with fail
  clear b0 b1 b2 b3 b4 b5 c0 d1 d2 d3 d4 d5 e1 e2 hN hN1
  go_loopw [5] (fun i wr => ∃ k : Nat, k ≤ n ∧ i = .int .i64 (k : Int) ∧ Hid (Q w2 wr)) (fun i _ => n - (intOf i).toNat)
  case atStart => exact ⟨0, by omega, rfl, Lib.hid (Q.refl _)⟩
  case round =>
    obtain ⟨k, hk, rfl, HQr⟩ := hrel
    rename World => wa
    have HW := Lib.hid (HQ.out.trans HQr.out)
    have b3 := (HB.out.q HQr.out).c.2.2.2.1
    have d3 := (HC.out.q HQr.out).c.2.2.2.1
    by_cases hlt : k < n
    · have g1 : decide (k < n) = true := by simpa using hlt
      obtain ⟨ga, oa, hA, e0, e1⟩ := (H1.out.q HW.out).at hlt
      obtain ⟨gb, ob, hB, f0, f1⟩ := (H2.out.q HW.out).at hlt
      subst hA
      subst hB
      obtain ⟨⟨x, y⟩, hxy⟩ : ∃ p, gU fs k = p := ⟨_, rfl⟩
      rw [hxy] at e0 e1 f0 f1
      simp only at e0 e1 f0 f1
      clear hxy
      go_upto_region 6 with (fail)
      have k3 : ∀ mm : QW wa, mm.val.cell? ⟨N, 3, none⟩ = some (.slice (some ⟨ga, oa, none⟩) n c1) := fun mm => mm.cell b3
      have l3 : ∀ mm : QW wa, mm.val.cell? ⟨N + 1, 3, none⟩ = some (.slice (some ⟨gb, ob, none⟩) n c2) := fun mm => mm.cell d3
      have k4 : ∀ mm : QW wa, mm.val.cell? ⟨ga, oa + k * 2, none⟩ = some (.string ⟨x.toArray⟩) := fun mm => mm.cell e0
      have k5 : ∀ mm : QW wa, mm.val.cell? ⟨ga, oa + k * 2 + 1, none⟩ = some (.string ⟨y.toArray⟩) := fun mm => mm.cell e1
      have l4 : ∀ mm : QW wa, mm.val.cell? ⟨gb, ob + k * 2, none⟩ = some (.string ⟨x.toArray⟩) := fun mm => mm.cell f0
      have l5 : ∀ mm : QW wa, mm.val.cell? ⟨gb, ob + k * 2 + 1, none⟩ = some (.string ⟨y.toArray⟩) := fun mm => mm.cell f1
      refine wp_region_q (by kernel_rfl) (by kernel_rfl) ?_
      (repeat (go_big_quiet_step (fail)))
      refine wpQuiet_nil ?_
      rintro wx ⟨mx, hmx⟩
      have hqx : Q wa wx := by rw [hmx]; exact mx.le
      have HQx := Lib.hid (HQr.out.trans hqx)
      clear mx hmx hqx k3 l3 k4 k5 l4 l5 e0 e1 f0 f1 b3 d3
      go_wp2_with fail
      go_roundw
      case rel => exact ⟨k + 1, by omega, by go_num, HQx⟩
      case measure => simp [intOf]; omega
    · have g1 : decide (k < n) = false := by simpa using hlt
      clear hlt
      go_wp2_with fail
      go_ret
      exact ⟨rfl, HW.out⟩
def CpPost (r : ReqD) (n : Nat) (w : World) (e : Ending) (w' : World) : Prop :=
  (∃ G, e = .returned (.agg (reqC r (some ⟨G, 0, none⟩) n (n + 1)).toArray) ∧ OwnU w w' (.slice (some ⟨G, 0, none⟩) (n + 1) (n + 1)) (r.fs ++ [markP])) ∧ Q w w'
set_option maxRecDepth 100000 in
set_option maxHeartbeats 4000000 in
theorem copied_any (r : ReqD) (A : Option Addr) (n c : Nat) (w : World) (h : PairsAt w A n r.fs) (hn : n ≤ 1100000) :
    Calls Tryz.prog 12 #[.agg (reqC r A n c).toArray] w (CpPost r n w) := by
  have HP := Lib.hid h
  have HNL := Lib.hid h.1
  obtain ⟨N, w1, hN, e1, hb1, hq1⟩ : ∃ N w1, w.heap.size = N ∧ w.alloc (.cells (reqV r (.slice A n c)).toArray 24) = w1 ∧ RB w1 N r (.slice A n c) ∧ Q w w1 := ⟨_, _, rfl, rfl, RB.new w r _, (Q.refl w).alloc _⟩
  obtain ⟨w2, hN1, e2, hb2, hb3, hq2⟩ : ∃ w2, w1.heap.size = N + 1 ∧ w1.alloc (.cells (reqV zeroR (.slice none 0 0)).toArray 24) = w2 ∧ RB w2 N r (.slice A n c) ∧ RB w2 (N + 1) zeroR (.slice none 0 0) ∧ Q w w2 := by
    have hs1 : w1.heap.size = N + 1 := by rw [← e1, ← hN]; show (w.heap.push _).size = _; simp
    refine ⟨_, hs1, rfl, hb1.q ((Q.refl w1).alloc _), ?_, hq1.alloc _⟩
    rw [← hs1]; exact RB.new w1 zeroR _
  have HB := Lib.hid hb2
  have HZ := Lib.hid hb3
  have HQ := Lib.hid hq2
  have HNw : Hid (w.heap.size ≤ N) := Lib.hid (by omega)
  obtain ⟨w3, hmk, ho3, hq3⟩ := make_pairs w2 (n + 1) (n + 1) (Nat.le_refl _) (by omega)
  have hmk : (Instr.makeSlice 22 (.int .i64 ((n : Int) + 1)) (.int .i64 ((n : Int) + 1))).run Tryz.prog w2 = .ok (.slice (some ⟨w2.heap.size, 0, none⟩) (n + 1) (n + 1)) w3 := hmk
  obtain ⟨G, hG⟩ : ∃ G, G = w2.heap.size := ⟨_, rfl⟩
  rw [← hG] at hmk ho3
  have hNG : N + 1 < G := by rw [hG]; exact lt_of_heap HZ.out
  have HG := Lib.hid hG
  have HNG := Lib.hid hNG
  clear hG hNG h hb1 hq1 hb2 hb3 hq2
  obtain ⟨m, tg, minor, fs, body, close⟩ := r
  simp only [reqV, zeroR] at e1 e2
  simp only at HNL
  unfold CpPost reqC
  have b3 := HB.out.c.2.2.2.1
  go_enter Tryz.func12, Tryz.ntmps12
  go_upto_region 2 with (fail)
  clear b3 e1 e2 hN hN1
  have b3 := (HB.out.q hq3).c.2.2.2.1
  iterate 10 go_step
  refine wpList_copy_u rfl (.tmp 9) (.tmp 11) rfl w2 w3 G (n + 1) (n + 1) (List.replicate (n + 1) default) fs _ n c (by rfl) ho3 List.length_replicate (by rfl) ((HP.out.q HQ.out).q hq3) hq3 ?_
  intro w4 ho4 hq4 hg4
  have e1 : fs.take (n + 1) ++ (List.replicate (n + 1) (default : PairD)).drop n = fs ++ [default] := by
    rw [List.take_of_length_le (by have := HNL.out; omega), List.drop_replicate, show n + 1 - n = 1 by omega]; rfl
  rw [e1] at ho4
  obtain ⟨g, hg, hgs, hth, ho5, hg5⟩ := ho4.setU n (by omega) markP
  cases hg
  have e2 : (fs ++ [(default : PairD)]).set n markP = fs ++ [markP] := by rw [HNL.out, List.set_append_right _ _ (Nat.le_refl _)]; simp
  rw [e2] at ho5
  have hgn : ∀ k, (Value.slice (some ⟨G, 0, none⟩) (n + 1) (n + 1)).ownBlock = some k → w2.heap.size ≤ k := fun k hk => by cases hk; rw [HG.out]; exact Nat.le_refl _
  have hq5 : Q w2 (w4.setCells G (n * 2) (pairL markP)) := Below.grown hq4 hg5 hq4.size (fun k hk => by cases hk; rw [HG.out]; exact Nat.le_refl _)
  have b3 := (HB.out.q hq4).c.2.2.2.1
  have HO5 := Lib.hid ho5
  have HQ5 := Lib.hid hq5
  clear hmk ho3 ho4 e1 e2 ho5 hg5 hq3 hq4 hgs hg4 hgn hq5
  go_upto_region 4 with (refine wpList_store_mid rfl 37 _ _ rfl G (n * 2) (pairL markP).toArray (by rfl) (by rfl) hth infoP (pairL_one _) ?_)
  obtain ⟨w5, hw5⟩ : ∃ W, w4.setCells G (n * 2) (pairL markP) = W := ⟨_, rfl⟩
  rw [hw5] at HO5 HQ5
  have hw5b : w4.setCells G (n * 2) (pairL markP).toArray.toList = w5 := hw5
  first | rw [hw5] | rw [hw5b]
  clear hw5 hw5b hth b3
  have b3 := (HB.out.q HQ5.out).c.2.2.2.1
  have f3 := (HB.out.q HQ5.out).f 3
  have HB6 := Lib.hid ((HB.out.q HQ5.out).set (.slice (some ⟨G, 0, none⟩) n (n + 1)))
  have HZ6 := Lib.hid ((HZ.out.q HQ5.out).otherC (show N + 1 ≠ N by omega) (i := 3) (.slice (some ⟨G, 0, none⟩) n (n + 1)))
  have HO6 := Lib.hid (HO5.out.setC N 3 (.slice (some ⟨G, 0, none⟩) n (n + 1)) (by have := lt_of_heap HB.out; exact this))
  have HQ6 : Hid (Q w (w5.setCell ⟨N, 3, none⟩ (.slice (some ⟨G, 0, none⟩) n (n + 1)))) := Lib.hid (Q.setNew (HQ.out.trans HQ5.out) (by have := HNw.out; show w.heap.size ≤ N; omega) _)
  obtain ⟨w6, hw6⟩ : ∃ W, w5.setCell ⟨N, 3, none⟩ (.slice (some ⟨G, 0, none⟩) n (n + 1)) = W := ⟨_, rfl⟩
  rw [hw6] at HB6 HZ6 HO6 HQ6
  clear HQ5 HO5
  go_upto_region 5 with (fail)
  try rw [hw6]
  clear hw6 b3 f3
  obtain ⟨b0, b1, b2, b3, b4, b5⟩ := HB6.out.c
  simp only at b0 b1 b2 b4 b5
  go_wp2_with (refine wpList_store_row rfl 24 _ _ rfl (N + 1) (reqV ⟨m, tg, minor, fs, body, close⟩ (.slice (some ⟨G, 0, none⟩) n (n + 1))).toArray (by rfl) (by rfl) 24 _ HZ6.out (infoReqS _ _) rfl (reqV_one _ _ _ _) ?_)
  have hz2 := HZ6.out.row ⟨m, tg, minor, fs, body, close⟩ (.slice (some ⟨G, 0, none⟩) n (n + 1))
  have hq2 : Q w (w6.setRow (N + 1) (reqV ⟨m, tg, minor, fs, body, close⟩ (.slice (some ⟨G, 0, none⟩) n (n + 1))).toArray) := Q.setRow HQ6.out (by have := HNw.out; omega) _
  have ho2 : OwnU w (w6.setRow (N + 1) (reqV ⟨m, tg, minor, fs, body, close⟩ (.slice (some ⟨G, 0, none⟩) n (n + 1))).toArray) (.slice (some ⟨G, 0, none⟩) (n + 1) (n + 1)) (fs ++ [markP]) := (HO6.out.setR (N + 1) _ (lt_of_heap HZ.out)).low HQ.out.size
  generalize w6.setRow (N + 1) (reqV ⟨m, tg, minor, fs, body, close⟩ (.slice (some ⟨G, 0, none⟩) n (n + 1))).toArray = W9 at hz2 hq2 ho2 ⊢
  refine bodyPost_ret (v := .agg (reqV ⟨m, tg, minor, fs, body, close⟩ (.slice (some ⟨G, 0, none⟩) n (n + 1))).toArray) ?_ rfl ⟨⟨G, rfl, ho2⟩, hq2⟩
  exact results_cell_row rfl _ _ (N + 1) 24 _ (0, 0) _ rfl hz2 Tryz.underlying24 rfl (infoReqS _ _)
end Go.Proofs.YtmmoenbmgcplkaaGreatDoor
set_option linter.unusedVariables false
set_option linter.unusedSimpArgs false
namespace Go.Proofs.YtmmoenbmgcplkaaGreatDoor
open Go Go.RowKit
structure Marked (W : World) (r : ReqD) (G n : Nat) : Prop where
  p : PairsAt W (some ⟨G, 0, none⟩) n r.fs
  c0 : W.cell? ⟨G, n * 2, none⟩ = some (.string ⟨#[109, 97, 114, 107]⟩)
  c1 : W.cell? ⟨G, n * 2 + 1, none⟩ = some (.string ⟨#[]⟩)
theorem Marked.q {W W' : World} {r : ReqD} {G n : Nat} (h : Marked W r G n) (hq : Q W W') : Marked W' r G n := ⟨h.p.q hq, hq.cell h.c0, hq.cell h.c1⟩
theorem marked_of {w W : World} {r : ReqD} {G n : Nat} (h : OwnU w W (.slice (some ⟨G, 0, none⟩) (n + 1) (n + 1)) (r.fs ++ [markP])) (hn : n = r.fs.length) : Marked W r G n := by
  obtain ⟨A', c', e, _, hp⟩ := h.pairs
  injection e with e1 _ _
  subst e1
  have h2 := hp.take n (by rw [List.length_append, ← hn]; simp)
  rw [List.take_append_of_le_length (by rw [← hn]; exact Nat.le_refl _)] at h2
  have h3 : PairsAt W (some ⟨G, 0, none⟩) n r.fs := by rw [hn, List.take_length] at h2; rw [hn]; exact h2
  obtain ⟨g, hg, c0, c1, _, _⟩ := h.el (j := n) (by rw [List.length_append, ← hn]; simp)
  cases hg
  have hgu : gU (r.fs ++ [markP]) n = markP := by rw [hn]; exact gU_end r.fs markP
  rw [hgu] at c0 c1
  exact ⟨h3, c0, c1⟩
set_option maxRecDepth 100000 in
set_option maxHeartbeats 4000000 in
theorem still_any (r : ReqD) (A : Option Addr) (G n c : Nat) (w : World) (hm : Marked w r G n) (h : PairsAt w A n r.fs) (hn : n ≤ 1100000) :
    Calls Tryz.prog 15 #[.agg (reqC r (some ⟨G, 0, none⟩) n (n + 1)).toArray, .agg (reqC r A n c).toArray] w fun e w' => e = .returned (.bool true) ∧ Q w w' := by
  have HM := Lib.hid hm
  have HSm := Lib.hid (fun W (hq : Q w W) => RSame_true r (some ⟨G, 0, none⟩) A n (n + 1) c W (hm.p.q hq) (h.q hq) (by omega))
  obtain ⟨N, w1, hN, e1, hb1, hq1⟩ : ∃ N w1, w.heap.size = N ∧ w.alloc (.cells (reqV r (.slice (some ⟨G, 0, none⟩) n (n + 1))).toArray 24) = w1 ∧ RB w1 N r (.slice (some ⟨G, 0, none⟩) n (n + 1)) ∧ Q w w1 := ⟨_, _, rfl, rfl, RB.new w r _, (Q.refl w).alloc _⟩
  obtain ⟨w2, hN1, e2, hb2, hb3, hq2⟩ : ∃ w2, w1.heap.size = N + 1 ∧ w1.alloc (.cells (reqV r (.slice A n c)).toArray 24) = w2 ∧ RB w2 N r (.slice (some ⟨G, 0, none⟩) n (n + 1)) ∧ RB w2 (N + 1) r (.slice A n c) ∧ Q w w2 := by
    have hs1 : w1.heap.size = N + 1 := by rw [← e1, ← hN]; show (w.heap.push _).size = _; simp
    refine ⟨_, hs1, rfl, hb1.q ((Q.refl w1).alloc _), ?_, hq1.alloc _⟩
    rw [← hs1]; exact RB.new w1 r _
  have HB := Lib.hid hb2
  have HC := Lib.hid hb3
  have HQ := Lib.hid hq2
  clear h hm hb1 hq1 hb2 hb3 hq2
  obtain ⟨m, tg, minor, fs, body, close⟩ := r
  simp only [reqV] at e1 e2
  unfold reqC at HSm ⊢
  obtain ⟨b0, b1, b2, b3, b4, b5⟩ := HB.out.c
  obtain ⟨c0, d1, d2, d3, d4, d5⟩ := HC.out.c
  simp only at b0 b1 b2 b4 b5 c0 d1 d2 d4 d5
  go_enter Tryz.func15, Tryz.ntmps15
  go_wp2_with fail
  refine (HSm.out _ HQ.out).mono ?_
  rintro e w3 ⟨rfl, hq3⟩
  have HQ3 := Lib.hid (HQ.out.trans hq3)
  clear b0 b1 b2 b3 b4 b5 c0 d1 d2 d3 d4 d5 e1 e2 hN hN1
  have b3 := (HB.out.q hq3).c.2.2.2.1
  have m0 := (HM.out.q HQ3.out).c0
  have m1 := (HM.out.q HQ3.out).c1
  have hnn : (n : Int) < (n : Int) + 1 := by omega
  clear hq3
  go_wp2_with fail
  go_ret
  exact ⟨rfl, HQ3.out⟩
end Go.Proofs.YtmmoenbmgcplkaaGreatDoor
set_option linter.unusedVariables false
set_option linter.unusedSimpArgs false
namespace Go.Proofs.YtmmoenbmgcplkaaGreatDoor
open Go Go.RowKit
def blkB (b : UInt8) : Bool := b == 32 || b == 9
def stepQ (st : List UInt8 × Bool) (b : UInt8) : List UInt8 × Bool :=
  if blkB b then (st.1, !st.1.isEmpty) else ((if st.2 then st.1 ++ [32, b] else st.1 ++ [b]), false)
def squeezeR (s : List UInt8) : List UInt8 := (s.foldl stepQ ([], false)).1
theorem blkB_nat (b : UInt8) : blkB b = (decide (b.toNat = 32) || decide (b.toNat = 9)) := by
  have h : ∀ n : Fin 256, blkB n.val.toUInt8 = (decide (n.val.toUInt8.toNat = 32) || decide (n.val.toUInt8.toNat = 9)) := by decide +kernel
  have := h ⟨b.toNat, b.toNat_lt⟩
  simpa using this
theorem conts (n b0 b1 b2 b3 : Nat) :
    (2 ≤ (Lib.decodeN n b0 b1 b2 b3).2 → b1 / 64 = 2) ∧ (3 ≤ (Lib.decodeN n b0 b1 b2 b3).2 → b2 / 64 = 2) ∧ (4 ≤ (Lib.decodeN n b0 b1 b2 b3).2 → b3 / 64 = 2) ∧ (Lib.decodeN n b0 b1 b2 b3).2 ≤ 4 := by
  unfold Lib.decodeN
  repeat' split
  all_goals (simp only; omega)
theorem dec_nb (l : List UInt8) (pos : Nat) (h : pos < l.length) :
    blankN (Utf8.decode ⟨l.toArray⟩ pos).1 = blkB (gB l pos) ∧ (blkB (gB l pos) = true → (Utf8.decode ⟨l.toArray⟩ pos).2 = 1) ∧
    (blkB (gB l pos) = false → ∀ j, j < (Utf8.decode ⟨l.toArray⟩ pos).2 → blkB (gB l (pos + j)) = false) := by
  obtain ⟨f1, f2, f3, f4⟩ := dec_facts l pos h
  have hsz : (ByteArray.mk l.toArray).size = l.length := rfl
  have hg : (ByteArray.mk l.toArray).get! pos = gB l pos := get_gB l pos h
  by_cases hb : 128 ≤ (gB l pos).toNat
  · obtain ⟨f5, _⟩ := f4 hb
    have hk : blkB (gB l pos) = false := by rw [blkB_nat]; simp; omega
    refine ⟨?_, ?_, ?_⟩
    · rw [hk]; unfold blankN; simp; omega
    · intro h; rw [hk] at h; cases h
    intro _ j hj
    · rw [Lib.decode_at, hsz, hg] at hj f2
      obtain ⟨c1, c2, c3, c4⟩ := conts (l.length - pos) (gB l pos).toNat ((ByteArray.mk l.toArray).get! (pos + 1)).toNat ((ByteArray.mk l.toArray).get! (pos + 2)).toNat ((ByteArray.mk l.toArray).get! (pos + 3)).toNat
      rcases j with _ | _ | _ | _ | j
      · exact hk
      · have := c1 (by omega); rw [get_gB l (pos + 1) (by omega)] at this; rw [blkB_nat]; simp; omega
      · have := c2 (by omega); rw [get_gB l (pos + 2) (by omega)] at this; rw [blkB_nat]; simp; omega
      · have := c3 (by omega); rw [get_gB l (pos + 3) (by omega)] at this; rw [blkB_nat]; simp; omega
      · omega
  · have e : Utf8.decode ⟨l.toArray⟩ pos = ((gB l pos).toNat, 1) := by
      rw [Lib.decode_at, hsz, hg]
      unfold Lib.decodeN
      rw [if_pos (by omega)]
    rw [e]
    refine ⟨by rw [blkB_nat]; rfl, fun _ => rfl, ?_⟩
    intro hk j hj
    have : j = 0 := by simp only at hj; omega
    subst this; exact hk
theorem fold_nb (u : List UInt8) : u ≠ [] → (∀ b ∈ u, blkB b = false) → ∀ o g, u.foldl stepQ (o, g) = ((if g then o ++ 32 :: u else o ++ u), false) := by
  have h0 : ∀ u : List UInt8, (∀ b ∈ u, blkB b = false) → ∀ o, u.foldl stepQ (o, false) = (o ++ u, false) := by
    intro u
    induction u with
    | nil => intro _ o; simp
    | cons b r ih =>
      intro hb o
      have h1 : stepQ (o, false) b = (o ++ [b], false) := by unfold stepQ; rw [if_neg (by rw [hb b (by simp)]; decide)]; rfl
      rw [List.foldl_cons, h1, ih (fun x hx => hb x (by simp [hx]))]
      simp
  intro hu hb o g
  obtain ⟨b, r, rfl⟩ := List.exists_cons_of_ne_nil hu
  rcases g with _ | _
  · rw [h0 _ hb]; rfl
  · have h1 : stepQ (o, true) b = (o ++ [32, b], false) := by unfold stepQ; rw [if_neg (by rw [hb b (by simp)]; decide)]; rfl
    rw [List.foldl_cons, h1, h0 _ (fun x hx => hb x (by simp [hx]))]
    simp
theorem join_snocC (c : UInt8) (xs : List (List UInt8)) (x : List UInt8) (h : xs ≠ []) : Lib.join (xs ++ [x]) [c] = Lib.join xs [c] ++ (c :: x) := by
  induction xs with
  | nil => exact absurd rfl h
  | cons a r ih =>
    rcases r with _ | ⟨b, r⟩
    · rw [List.cons_append, List.nil_append, join_cons, join_one, join_one]; simp
    · rw [List.cons_append, List.cons_append, join_cons, join_cons, ← List.cons_append, ih (by simp)]; simp
theorem join_ext (c : UInt8) (xs : List (List UInt8)) (x u : List UInt8) : Lib.join (xs ++ [x]) [c] ++ u = Lib.join (xs ++ [x ++ u]) [c] := by
  rcases xs with _ | ⟨a, r⟩
  · rw [List.nil_append, List.nil_append, join_one, join_one]
  · rw [join_snocC c _ _ (by simp), join_snocC c _ _ (by simp)]; simp
theorem join_empty (c : UInt8) (xs : List (List UInt8)) (h : ∀ x ∈ xs, x ≠ []) : (Lib.join xs [c]).isEmpty = xs.isEmpty := by
  rcases xs with _ | ⟨a, r⟩
  · rw [join_nil]; rfl
  · obtain ⟨b, t, hb⟩ := List.exists_cons_of_ne_nil (h a (by simp))
    rcases r with _ | ⟨d, r⟩
    · rw [join_one, hb]; rfl
    · rw [join_cons, hb]; rfl
def piecesQ (s : List UInt8) (acc : List (Nat × Nat)) : List (List UInt8) := acc.map fun x => sub s x.1 x.2
def InvQ (s : List UInt8) (pos : Nat) (st : Option Nat) (acc : List (Nat × Nat)) (q : List UInt8 × Bool) : Prop :=
  (∀ x ∈ acc, x.1 < x.2 ∧ x.2 ≤ s.length) ∧ match st with
  | some a => a < pos ∧ q = (Lib.join (piecesQ s acc ++ [sub s a pos]) [32], false)
  | none => q = (Lib.join (piecesQ s acc) [32], !(piecesQ s acc).isEmpty)
theorem sub_neQ {s : List UInt8} {a b : Nat} (h : a < b) (hb : b ≤ s.length) : sub s a b ≠ [] := by
  intro e
  have := congrArg List.length e
  unfold sub at this
  simp at this; omega
theorem pieces_ne {s : List UInt8} {acc : List (Nat × Nat)} (h : ∀ x ∈ acc, x.1 < x.2 ∧ x.2 ≤ s.length) : ∀ x ∈ piecesQ s acc, x ≠ [] := by
  intro x hx
  unfold piecesQ at hx
  obtain ⟨y, hy, rfl⟩ := List.mem_map.1 hx
  exact sub_neQ (h y hy).1 (h y hy).2
theorem spans_fold (s : List UInt8) : ∀ (f pos : Nat) (st : Option Nat) (acc : List (Nat × Nat)) (q : List UInt8 × Bool), pos ≤ s.length → s.length - pos ≤ f → InvQ s pos st acc q →
    ((s.drop pos).foldl stepQ q).1 = Lib.join (piecesQ s (Lib.closeSpans ⟨s.toArray⟩ (Lib.spansFromP blankN ⟨s.toArray⟩ f pos st acc))) [32] := by
  have hsz : (ByteArray.mk s.toArray).size = s.length := rfl
  have hend : ∀ (pos : Nat) (st : Option Nat) (acc : List (Nat × Nat)) (q : List UInt8 × Bool), pos = s.length → InvQ s pos st acc q → ((s.drop pos).foldl stepQ q).1 = Lib.join (piecesQ s (Lib.closeSpans ⟨s.toArray⟩ (acc, st))) [32] := by
    intro pos st acc q hp hi
    rw [List.drop_eq_nil_of_le (by omega), List.foldl_nil]
    unfold Lib.closeSpans InvQ at *
    rcases st with _ | a
    · simp only at hi ⊢; rw [hi.2]
    · simp only at hi ⊢
      rw [hi.2.2, hsz, hp]
      unfold piecesQ
      simp
  intro f
  induction f with
  | zero =>
    intro pos st acc q hp hf hi
    exact hend pos st acc q (by omega) hi
  | succ f ih =>
    intro pos st acc q hp hf hi
    unfold Lib.spansFromP
    by_cases hlt : pos < s.length
    · rw [if_pos (by rw [hsz]; exact hlt)]
      obtain ⟨d1, d2, d3⟩ := dec_nb s pos hlt
      obtain ⟨e1, e2, _, _⟩ := dec_facts s pos hlt
      rw [d1]
      rcases hb : blkB (gB s pos) with _ | _
      · have d3 := d3 hb
        generalize hn : (Utf8.decode ⟨s.toArray⟩ pos).2 = n at *
        have hdr : s.drop pos = sub s pos (pos + n) ++ s.drop (pos + n) := by
          unfold sub
          rw [List.drop_take, show pos + n - pos = n by omega, show s.drop (pos + n) = (s.drop pos).drop n by rw [List.drop_drop]]
          exact (List.take_append_drop n (s.drop pos)).symm
        have hsn : sub s pos (pos + n) ≠ [] := sub_neQ (by omega) e2
        have hsb : ∀ b ∈ sub s pos (pos + n), blkB b = false := by
          intro b hbm
          obtain ⟨j, hj, rfl⟩ := List.mem_iff_getElem.1 hbm
          have hjl : j < n := by unfold sub at hj; simp at hj; omega
          have := d3 j hjl
          have e : (sub s pos (pos + n))[j] = gB s (pos + j) := by
            have h2 : pos + j < s.length := by omega
            have h3 : ((s.take (pos + n)).drop pos)[j]? = s[pos + j]? := by rw [List.getElem?_drop, List.getElem?_take, if_pos (by omega)]
            have h4 : (sub s pos (pos + n))[j]? = some (gB s (pos + j)) := by
              show ((s.take (pos + n)).drop pos)[j]? = _
              rw [h3, List.getElem?_eq_getElem h2]; simp [gB, List.getD, h2]
            exact Option.some.inj ((List.getElem?_eq_getElem hj).symm.trans h4)
          rw [e]; exact this
        rw [hdr, List.foldl_append]
        have hsub : ∀ a, a ≤ pos → sub s a pos ++ sub s pos (pos + n) = sub s a (pos + n) := by
          intro a ha
          unfold sub
          have h1 : (s.take (pos + n)).drop a = ((s.take (pos + n)).take pos).drop a ++ ((s.take (pos + n)).drop pos) := by
            conv => lhs; rw [← List.take_append_drop pos (s.take (pos + n))]
            rw [List.drop_append_of_le_length (by simp; omega)]
          rw [h1, List.take_take, show min pos (pos + n) = pos by omega]
        rcases st with _ | a
        · simp only [Bool.false_eq_true, if_false]
          refine ih _ _ _ _ e2 (by omega) ?_
          unfold InvQ at hi ⊢
          refine ⟨hi.1, by omega, ?_⟩
          rw [hi.2, fold_nb _ hsn hsb]
          rcases hp0 : piecesQ s acc with _ | ⟨x, r⟩
          · simp only [List.isEmpty_nil, Bool.not_true, Bool.false_eq_true, if_false, List.nil_append]
            rw [join_nil, join_one]; rfl
          · simp only [List.isEmpty_cons, Bool.not_false, if_true]
            rw [join_snocC 32 (x :: r) _ (by simp)]
        · simp only [Bool.false_eq_true, if_false]
          refine ih _ _ _ _ e2 (by omega) ?_
          unfold InvQ at hi ⊢
          refine ⟨hi.1, by have := hi.2.1; omega, ?_⟩
          rw [hi.2.2, fold_nb _ hsn hsb]
          simp only [Bool.false_eq_true, if_false]
          rw [join_ext, hsub a (by have := hi.2.1; omega)]
      · have hn := d2 hb
        rw [hn]
        rw [drop_consB s pos hlt, List.foldl_cons]
        rcases st with _ | a
        · simp only [if_true]
          refine ih _ _ _ _ (by omega) (by omega) ?_
          unfold InvQ at hi ⊢
          refine ⟨hi.1, ?_⟩
          simp only at hi ⊢
          rw [hi.2]
          unfold stepQ
          rw [if_pos hb]
          simp only
          rw [join_empty 32 _ (pieces_ne hi.1)]
        · simp only [if_true]
          refine ih _ _ _ _ (by omega) (by omega) ?_
          unfold InvQ at hi ⊢
          have hacc : ∀ x ∈ acc ++ [(a, pos)], x.1 < x.2 ∧ x.2 ≤ s.length := by
            intro x hx
            rcases List.mem_append.1 hx with hx | hx
            · exact hi.1 x hx
            · simp only [List.mem_singleton] at hx; subst hx; exact ⟨hi.2.1, by simp only; omega⟩
          refine ⟨hacc, ?_⟩
          have hpp : piecesQ s (acc ++ [(a, pos)]) = piecesQ s acc ++ [sub s a pos] := by unfold piecesQ; simp
          simp only at hi ⊢
          rw [hi.2.2]
          unfold stepQ
          rw [if_pos hb]
          simp only
          rw [← hpp, join_empty 32 _ (pieces_ne hacc)]
    · rw [if_neg (by rw [hsz]; exact hlt)]
      exact hend pos st acc q (by omega) hi
theorem squeeze_eq (s : List UInt8) : squeezeL s = squeezeR s := by
  have h := spans_fold s s.length 0 none [] ([], false) (by omega) (by omega) ⟨fun x hx => (by cases hx), by unfold piecesQ; rw [List.map_nil, join_nil]; rfl⟩
  rw [List.drop_zero] at h
  unfold squeezeR squeezeL fieldsL Lib.goFieldsP Lib.spansOfP
  rw [h]
  congr 1
  unfold piecesQ
  rw [List.map_map]
  refine List.map_congr_left fun x _ => ?_
  show ((ByteArray.mk s.toArray).extract x.1 x.2).data.toList = sub s x.1 x.2
  rw [extract_list]
end Go.Proofs.YtmmoenbmgcplkaaGreatDoor
set_option linter.unusedVariables false
set_option linter.unusedSimpArgs false
namespace Go.Proofs.YtmmoenbmgcplkaaGreatDoor
open Go Go.RowKit
def blkL (s : List UInt8) : List UInt8 := Lib.trimLeftB s 32
def apS (c : ClaimD) (s : List UInt8) : Option ClaimD :=
  if Lib.hasPrefix (blkL s) sgnW = true ∧ ((blkL s).drop 10).length = 64 then
    if ((blkL s).drop 10).all chrX = true then some { c with sig := (blkL s).drop 10 } else none
  else none
def apH (c : ClaimD) (s : List UInt8) : Option ClaimD :=
  if Lib.hasPrefix (blkL s) shdW = true then
    if uptoB 44 ((blkL s).drop 14) = true then apS { c with names := splitC 59 (uptoP 44 ((blkL s).drop 14)) } (uptoS 44 ((blkL s).drop 14)) else none
  else none
def credOk (p : List UInt8) : Prop := uptoB 47 p = true ∧ uptoB 47 (uptoS 47 p) = true ∧ uptoB 47 (uptoS 47 (uptoS 47 p)) = true ∧ uptoS 47 (uptoS 47 (uptoS 47 p)) = s3L ∧ wordL (uptoP 47 p) = true ∧ (uptoP 47 (uptoS 47 p)).length = 8
instance (p : List UInt8) : Decidable (credOk p) := by unfold credOk; infer_instance
def apC (p s : List UInt8) : Option ClaimD :=
  if credOk p then
    if (uptoP 47 (uptoS 47 p)).all chrT = true then apH ⟨uptoP 47 p, uptoP 47 (uptoS 47 p), uptoP 47 (uptoS 47 (uptoS 47 p)), [], []⟩ s else none
  else none
def apQ (s : List UInt8) : Option ClaimD :=
  if Lib.hasPrefix s methodS = true then
    if Lib.hasPrefix (blkL (s.drop 17)) credW = true then
      if uptoB 44 ((blkL (s.drop 17)).drop 11) = true then apC (uptoP 44 ((blkL (s.drop 17)).drop 11)) (uptoS 44 ((blkL (s.drop 17)).drop 11)) else none
    else none
  else none
theorem headS_eq (h s : List UInt8) (hp : Lib.hasPrefix (blkL s) h = true) : headS h s = (blkL s).drop h.length := by
  unfold headS Lib.trimPrefix blkL at *
  rw [if_pos hp]
theorem read_apart (s : List UInt8) : readQ s = apQ s := by
  unfold readQ apQ
  by_cases h0 : Lib.hasPrefix s methodS = true
  · rw [if_pos h0]
    have hs : s = methodL ++ 32 :: s.drop 17 := by
      unfold Lib.hasPrefix at h0
      rw [List.isPrefixOf_iff_prefix] at h0
      obtain ⟨t, rfl⟩ := h0
      rfl
    have e1 : headS methodL s = 32 :: s.drop 17 ∧ headB methodL s = true := by
      conv => lhs; rw [hs]
      conv => rhs; rw [hs]
      exact head_hit (h := methodL) (32 :: s.drop 17) (by decide) (by decide)
    have e2 : blkL (32 :: s.drop 17) = blkL (s.drop 17) := by
      unfold blkL Lib.trimLeftB; rw [List.dropWhile_cons_of_pos (by rfl)]
    have e3 : headB credW (32 :: s.drop 17) = Lib.hasPrefix (blkL (s.drop 17)) credW := by unfold headB; rw [← e2]; rfl
    by_cases h1 : Lib.hasPrefix (blkL (s.drop 17)) credW = true
    · rw [if_pos h1]
      have e4 : headS credW (32 :: s.drop 17) = (blkL (s.drop 17)).drop 11 := by
        rw [headS_eq credW _ (by rw [e2]; exact h1), e2]; rfl
      generalize (blkL (s.drop 17)).drop 11 = t2 at *
      have hW : rdW s = ⟨((((((true && true) && true) && uptoB 44 t2) && headB shdW (uptoS 44 t2)) && uptoB 44 (headS shdW (uptoS 44 t2))) && headB sgnW (uptoS 44 (headS shdW (uptoS 44 t2)))),
          ((true && uptoB 47 (uptoP 44 t2)) && uptoB 47 (uptoS 47 (uptoP 44 t2))) && uptoB 47 (uptoS 47 (uptoS 47 (uptoP 44 t2))), uptoS 47 (uptoS 47 (uptoS 47 (uptoP 44 t2))),
          ⟨uptoP 47 (uptoP 44 t2), uptoP 47 (uptoS 47 (uptoP 44 t2)), uptoP 47 (uptoS 47 (uptoS 47 (uptoP 44 t2))), headS sgnW (uptoS 44 (headS shdW (uptoS 44 t2))), splitC 59 (uptoP 44 (headS shdW (uptoS 44 t2)))⟩⟩ := by
        unfold rdW
        simp only [e1.1, e1.2, e3, e4, h0, h1]
      rw [hW]
      clear hW e4 e3 e2 e1 hs h0 h1
      by_cases h2 : uptoB 44 t2 = true
      · rw [if_pos h2]
        unfold apC
        generalize uptoP 44 t2 = p at *
        generalize uptoS 44 t2 = u at *
        by_cases h3 : credOk p
        · rw [if_pos h3]
          obtain ⟨k1, k2, k3, k4, k5, k6⟩ := h3
          by_cases h4 : (uptoP 47 (uptoS 47 p)).all chrT = true
          · rw [if_pos h4]
            unfold apH
            by_cases h5 : Lib.hasPrefix (blkL u) shdW = true
            · rw [if_pos h5]
              have f1 : headS shdW u = (blkL u).drop 14 := headS_eq shdW u h5
              have f2 : headB shdW u = true := h5
              rw [f1, f2]
              generalize (blkL u).drop 14 = v at *
              by_cases h6 : uptoB 44 v = true
              · rw [if_pos h6]
                unfold apS
                generalize uptoS 44 v = x at *
                by_cases h7 : Lib.hasPrefix (blkL x) sgnW = true ∧ ((blkL x).drop 10).length = 64
                · rw [if_pos h7]
                  have g1 : headS sgnW x = (blkL x).drop 10 := headS_eq sgnW x h7.1
                  have g2 : headB sgnW x = true := h7.1
                  rw [g1, g2]
                  by_cases h8 : ((blkL x).drop 10).all chrX = true
                  · rw [if_pos h8, if_pos ⟨by simp only [h2, h6, Bool.and_self], by simp only [k1, k2, k3, Bool.and_self], k4, k5, k6, h4, h7.2, h8⟩]
                  · rw [if_neg h8, if_neg (fun h => h8 h.2.2.2.2.2.2.2)]
                · rw [if_neg h7, if_neg]
                  intro h
                  have a1 : headB sgnW x = true := by
                    have := h.1
                    simp only [Bool.and_eq_true] at this
                    exact this.2
                  have a2 := h.2.2.2.2.2.2.1
                  simp only at a2
                  rw [headS_eq sgnW x a1] at a2
                  exact h7 ⟨a1, a2⟩
              · rw [if_neg h6, if_neg]
                intro h
                have := h.1
                simp only [Bool.and_eq_true] at this
                exact h6 this.1.2
            · rw [if_neg h5, if_neg]
              intro h
              have := h.1
              simp only [Bool.and_eq_true] at this
              exact h5 this.1.1.2
          · rw [if_neg h4, if_neg (fun h => h4 h.2.2.2.2.2.1)]
        · rw [if_neg h3, if_neg]
          intro h
          have a := h.2.1
          simp only [Bool.and_eq_true] at a
          exact h3 ⟨a.1.1.2, a.1.2, a.2, h.2.2.1, h.2.2.2.1, h.2.2.2.2.1⟩
      · rw [if_neg h2, if_neg]
        intro h
        have := h.1
        simp only [Bool.and_eq_true] at this
        exact h2 this.1.1.1.2
    · rw [if_neg h1, if_neg]
      intro h
      have := h.1
      unfold rdW at this
      simp only [Bool.and_eq_true] at this
      rw [e1.1, e3] at this
      exact h1 this.1.1.1.1.2
  · rw [if_neg h0, if_neg]
    intro h
    have := h.1
    unfold rdW at this
    simp only [Bool.and_eq_true] at this
    exact h0 this.1.1.1.1.1.1
end Go.Proofs.YtmmoenbmgcplkaaGreatDoor
