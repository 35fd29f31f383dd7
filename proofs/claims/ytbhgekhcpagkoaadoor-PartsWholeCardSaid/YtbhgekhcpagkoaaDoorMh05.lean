/- Texts of this proof, laid into one: PaJ, PaL, HsA. -/
import Derived.Test.YtbhgekhcpagkoaaDoorMh04
import Derived.Lib.BufferWrite
/- The document's Put. -/
set_option linter.unusedVariables false
set_option linter.unusedSimpArgs false
namespace Go.Proofs.YtbhgekhcpagkoaaDoor
open Go Go.RowKit
theorem rise_lt {ps : List PartD} (h : riseB ps = true) (i : Nat) : ∀ d, i + d + 1 < ps.length → (gP ps i).num < (gP ps (i + d + 1)).num := by
  intro d
  induction d with
  | zero => intro h1; exact riseB_spec h i h1
  | succ d ih =>
    intro h1
    have h2 := ih (by omega)
    have h3 := riseB_spec h (i + d + 1) (by omega)
    rw [show i + (d + 1) + 1 = i + d + 1 + 1 by omega]
    omega
theorem atP_spec (ps : List PartD) (x : Int) : atP ps x ≤ ps.length ∧ (∀ j, j < atP ps x → (gP ps j).num < x) ∧ (atP ps x < ps.length → x ≤ (gP ps (atP ps x)).num) := by
  have hg : ∀ j (h : j < ps.length), gP ps j = ps[j] := fun j h => by simp [gP, List.getD, h]
  have hl : atP ps x ≤ ps.length := List.findIdx_le_length
  refine ⟨hl, fun j hj => ?_, fun h => ?_⟩
  · have := List.not_of_lt_findIdx hj
    rw [hg j (by omega)]
    simp at this
    omega
  · have := List.findIdx_getElem (xs := ps) (p := fun q : PartD => decide (x ≤ q.num)) (w := h)
    have this2 : decide (x ≤ (ps[atP ps x]'h).num) = true := this
    rw [hg _ h]
    exact of_decide_eq_true this2
theorem filter_drop {ps : List PartD} {x : Int} {D : Nat} (hD : D ≤ ps.length) (h1 : ∀ j, j < D → (gP ps j).num ≤ x) (h2 : ∀ j, D ≤ j → j < ps.length → x < (gP ps j).num) : ps.filter (fun q => decide (x < q.num)) = ps.drop D := by
  have hg : ∀ j (h : j < ps.length), gP ps j = ps[j] := fun j h => by simp [gP, List.getD, h]
  conv => lhs; rw [← List.take_append_drop D ps]
  rw [List.filter_append]
  have e1 : (ps.take D).filter (fun q => decide (x < q.num)) = [] := by
    rw [List.filter_eq_nil_iff]
    intro q hq
    obtain ⟨j, hj, rfl⟩ := List.getElem_of_mem hq
    rw [List.length_take] at hj
    rw [List.getElem_take]
    have := h1 j (by omega)
    rw [hg j (by omega)] at this
    simp; omega
  have e2 : (ps.drop D).filter (fun q => decide (x < q.num)) = ps.drop D := by
    rw [List.filter_eq_self]
    intro q hq
    obtain ⟨j, hj, rfl⟩ := List.getElem_of_mem hq
    rw [List.length_drop] at hj
    rw [List.getElem_drop]
    have := h2 (D + j) (by omega) (by omega)
    rw [hg (D + j) (by omega)] at this
    exact decide_eq_true this
  rw [e1, e2, List.nil_append]
theorem put_ref {ps : List PartD} (p : PartD) (h : rightB ps = true) : ps.take (atP ps p.num) ++ [p] ++ ps.filter (fun q => decide (p.num < q.num)) = putL ps p := by
  have hr : riseB ps = true := by unfold rightB at h; simp only [Bool.and_eq_true] at h; exact h.1
  obtain ⟨a1, a2, a3⟩ := atP_spec ps p.num
  unfold putL
  by_cases hc : atP ps p.num < ps.length ∧ (gP ps (atP ps p.num)).num = p.num
  · rw [if_pos hc, filter_drop (D := atP ps p.num + 1) (by omega)]
    · simp
    · intro j hj
      rcases Nat.lt_succ_iff_lt_or_eq.mp hj with e | e
      · have := a2 j e; omega
      · rw [e]; omega
    · intro j hj hl
      have := rise_lt hr (atP ps p.num) (j - (atP ps p.num + 1)) (by omega)
      rw [show atP ps p.num + (j - (atP ps p.num + 1)) + 1 = j by omega] at this
      omega
  · rw [if_neg hc, filter_drop (D := atP ps p.num) (by omega)]
    · simp
    · intro j hj; have := a2 j hj; omega
    · intro j hj hl
      have h3 := a3 (by omega)
      have h4 : p.num < (gP ps (atP ps p.num)).num := by
        rcases Int.lt_or_eq_of_le h3 with e | e
        · exact e
        · exact absurd ⟨by omega, e.symm⟩ hc
      rcases Nat.eq_or_lt_of_le hj with e | e
      · rw [← e]; exact h4
      · have := rise_lt hr (atP ps p.num) (j - (atP ps p.num + 1)) (by omega)
        rw [show atP ps p.num + (j - (atP ps p.num + 1)) + 1 = j by omega] at this
        omega
set_option maxRecDepth 100000 in
set_option maxHeartbeats 4000000 in
theorem RPut_bad (u : UpD) (A : Option Addr) (n cap : Nat) (ps : List PartD) (p : PartD) (w : World) (h : PartsAt w A n ps) (hok : OkP ps) (hp : p.tag.length ≤ 140737488355328) (hn : n ≤ 9223372036854775807) (hb : (rightB ps && mayB p) = false) :
    Calls Tryd.prog 15 #[upV u (.slice A n cap), partV p] w fun e w' => e = .returned (.tuple #[upV zU (.slice none 0 0), .bool false]) ∧ Q w w' := by
  obtain ⟨seq, bucket, key, type, owner, time⟩ := u
  have hm := Lib.hid (fun w => one_any p w hp)
  obtain ⟨num, size, time2, tag, blob⟩ := p
  unfold upV upL partV partL at *
  simp only at hm ⊢
  go_enter Tryd.func15, Tryd.ntmps15
  go_wp2_with fail
  refine (Right_any A n cap ps _ (h.q (((Q.refl w).alloc _).alloc _ |>.alloc _)) hok hn).mono ?_
  rintro e w1 ⟨rfl, hq⟩
  have hB := PutB.start w ⟨seq, bucket, key, type, owner, time⟩ (.slice A n cap) ⟨num, size, time2, tag, blob⟩ zU (.slice none 0 0) w1 hq
  clear hq
  have c0 := hB.bp.c0
  have c1 := hB.bp.c1
  have c2 := hB.bp.c2
  have c3 := hB.bp.c3
  have c4 := hB.bp.c4
  generalize w.heap.size = N0 at *
  go_wp2_with fail
  refine (hm.out _).mono ?_
  rintro e w2 ⟨rfl, hq2⟩
  have hB := hB.go hq2
  clear c0 c1 c2 c3 c4 hq2
  cases hr : rightB ps with
  | false =>
    go_wp2_with (refine wpList_store_row rfl 26 _ _ rfl (N0 + 1 + 1) (upL zU (.slice none 0 0)).toArray (by rfl) (by rfl) 26 _ hB.br infoU rfl (upL_one _ _ rfl) ?_)
    obtain ⟨h1, h2⟩ := hB.put zU (.slice none 0 0)
    exact bodyPost_ret (results_up rfl (by rfl) h1) rfl ⟨rfl, h2⟩
  | true =>
    have hmf : mayB ⟨num, size, time2, tag, blob⟩ = false := by rw [hr] at hb; simpa using hb
    rw [hmf]
    go_wp2_with (refine wpList_store_row rfl 26 _ _ rfl (N0 + 1 + 1) (upL zU (.slice none 0 0)).toArray (by rfl) (by rfl) 26 _ hB.br infoU rfl (upL_one _ _ rfl) ?_)
    obtain ⟨h1, h2⟩ := hB.put zU (.slice none 0 0)
    exact bodyPost_ret (results_up rfl (by rfl) h1) rfl ⟨rfl, h2⟩
theorem OwnP.slice {w0 w : World} {v : Value} {ps : List PartD} (h : OwnP w0 w v ps) : ∃ A n c, v = .slice A n c := by obtain ⟨A, c, hv, _⟩ := h.parts; exact ⟨A, _, c, hv⟩
theorem OwnP.one {w0 w : World} {v : Value} {ps : List PartD} (h : OwnP w0 w v ps) : v.oneCell' = true := by obtain ⟨_, _, hv, _⟩ := h.parts; rw [hv]; rfl
set_option maxRecDepth 100000 in
set_option maxHeartbeats 8000000 in
theorem RPut_ok (u : UpD) (A : Option Addr) (n cap : Nat) (ps : List PartD) (p : PartD) (w : World) (h : PartsAt w A n ps) (hok : OkP ps) (hp : p.tag.length ≤ 140737488355328) (hr : rightB ps = true) (hmay : mayB p = true) :
    Calls Tryd.prog 15 #[upV u (.slice A n cap), partV p] w fun e w' => (∃ v, e = .returned (.tuple #[upV u v, .bool true]) ∧ OwnP w w' v (putL ps p)) ∧ Q w w' := by
  have hn20 : n ≤ 20 := by rw [h.1]; exact right_len hr
  have hnl := Lib.hid h.1
  have hm := Lib.hid (fun w => one_any p w hp)
  have hright := Lib.hid (fun w h => Right_any A n cap ps w h hok (by omega))
  have hput := Lib.hid (put_ref p hr)
  rw [hr] at hright
  rw [hmay] at hm
  obtain ⟨seq, bucket, key, type, owner, time⟩ := u
  obtain ⟨num, size, time2, tag, blob⟩ := p
  unfold upV upL partV partL at *
  simp only at hm hput ⊢
  go_enter Tryd.func15, Tryd.ntmps15
  go_wp2_with fail
  refine (hright.out _ (h.q (((Q.refl w).alloc _).alloc _ |>.alloc _))).mono ?_
  rintro e w1 ⟨rfl, hq⟩
  have hB := PutB.start w ⟨seq, bucket, key, type, owner, time⟩ (.slice A n cap) ⟨num, size, time2, tag, blob⟩ zU (.slice none 0 0) w1 hq
  clear hq hright
  have c0 := hB.bp.c0
  have c1 := hB.bp.c1
  have c2 := hB.bp.c2
  have c3 := hB.bp.c3
  have c4 := hB.bp.c4
  obtain ⟨N0, hN⟩ : ∃ N0, N0 = w.heap.size := ⟨_, rfl⟩
  rw [← hN] at hB c0 c1 c2 c3 c4 ⊢
  have HN := Lib.hid hN
  clear hN
  go_wp2_with fail
  refine (hm.out _).mono ?_
  rintro e w2 ⟨rfl, hq2⟩
  have hB2 := hB.go hq2
  clear c0 c1 c2 c3 c4 hq2 hm hB
  have HH := Lib.hid h
  clear h
  go_wp2_with fail
  go_loopw [8, 9] (fun v i wr => ∃ k : Nat, k ≤ n ∧ i = .int .i64 (k : Int) ∧ Hid (∀ j, j < k → (gP ps j).num < num) ∧ Hid (OwnP w2 wr v (ps.take k)) ∧ Hid (Q w2 wr)) (fun _ i _ => n - (intOf i).toNat)
  case atStart => exact ⟨0, by omega, rfl, fun j hj => by omega, by rw [List.take_zero]; exact OwnP.nil _ _, Q.refl _⟩
  case round =>
    obtain ⟨k, hk, rfl, hj, HO, HQ⟩ := hrel
    have cu : ∀ m : QW wr, m.val.cell? ⟨N0, 6, none⟩ = some (.slice A n cap) := fun m => m.cell (hB2.go HQ.out).bu.c6
    have cp : ∀ m : QW wr, m.val.cell? ⟨N0 + 1, 0, none⟩ = some (.int .i64 num) := fun m => m.cell (hB2.go HQ.out).bp.c0
    by_cases hlt : k < n
    · have g1 : decide (k < n) = true := by simpa using hlt
      obtain ⟨g, off, rfl, ck0, _⟩ := (HH.out.q (hB2.go HQ.out).q).at hlt
      have ck : ∀ m : QW wr, m.val.cell? ⟨g, off + k * 5, none⟩ = some (.int .i64 (gP ps k).num) := fun m => m.cell ck0
      by_cases hv : (gP ps k).num < num
      · have g2 : decide ((gP ps k).num < num) = true := by simpa using hv
        have HV := Lib.hid hv
        clear hv
        go_wp2_with fail
        refine wp_region_q (by kernel_rfl) (by kernel_rfl) ?_
        (repeat (go_big_quiet_step (fail)))
        refine wpQuiet_nil ?_
        rintro wa ⟨ma, hma⟩
        have hqa : Q wr wa := by rw [hma]; exact ma.le
        have HO := Lib.hid (HO.out.q hqa)
        have HQ := Lib.hid (HQ.out.trans hqa)
        clear hma ma hqa
        have hBw := hB2.go HQ.out
        have cuw := hBw.bu.c6
        obtain ⟨g5, off5, hA5, e0, e1, e2, e3, e4⟩ := (HH.out.q hBw.q).at hlt
        cases hA5
        have hts : ps.take (k + 1) = ps.take k ++ [gP ps k] := by rw [List.take_succ_eq_append_getElem (by rw [← hnl.out]; exact hlt)]; simp [gP, List.getD, (show k < ps.length by rw [← hnl.out]; exact hlt)]
        have HT := Lib.hid hts
        have hlk : (ps.take k).length = k := by rw [List.length_take]; have := hnl.out; omega
        have HLK := Lib.hid hlk
        clear hts hlk cu cp ck ck0
        go_wp2_with (at_builtin; refine wpList_append_p rfl (.tmp 41) (.tmp 47) rfl w2 wa _ (ps.take k) (gP ps k) (by rfl) HO.out (by rfl) HQ.out (by rw [HLK.out]; omega) ?_; intro v5 w5 ho5 hq5 _; have HO5 := Lib.hid ho5; have HQ5 := Lib.hid hq5; clear ho5 hq5)
        go_roundw
        case rel =>
          refine ⟨k + 1, hlt, by go_num, fun j hj' => ?_, by rw [HT.out]; exact HO5.out, HQ5.out⟩
          by_cases e : j = k
          · subst e; exact HV.out
          · exact hj.out j (by omega)
        case measure => simp [intOf]; omega
      · have g2 : decide ((gP ps k).num < num) = false := by simpa using hv
        have HV := Lib.hid hv
        clear hv
        go_wp2_with fail
        refine wp_region_q (by kernel_rfl) (by kernel_rfl) ?_
        (repeat (go_big_quiet_step (fail)))
        refine wpQuiet_nil ?_
        rintro wa ⟨ma, hma⟩
        have hqa : Q wr wa := by rw [hma]; exact ma.le
        have HO := Lib.hid (HO.out.q hqa)
        have HQ := Lib.hid (HQ.out.trans hqa)
        clear hma ma hqa
        have hat : atP ps num = k := atP_eq (by rw [← hnl.out]; exact hk) hj.out (.inr (by have := HV.out; omega))
        have hBw := hB2.go HQ.out
        have d0 := hBw.bp.c0
        have d1 := hBw.bp.c1
        have d2 := hBw.bp.c2
        have d3 := hBw.bp.c3
        have d4 := hBw.bp.c4
        have hlk : (ps.take k).length = k := by rw [List.length_take]; have := hnl.out; omega
        have HLK := Lib.hid hlk
        clear hlk
        go_upto_region 10 with (fail)
        go_wp2_with (at_builtin; refine wpList_append_p rfl (.tmp 49) (.tmp 51) rfl w2 wa _ (ps.take k) ⟨num, size, time2, tag, blob⟩ (by rfl) HO.out (by rfl) HQ.out (by rw [HLK.out]; omega) ?_; intro v5 w5 ho5 hq5 _; have HO5 := Lib.hid ho5; have HQ5 := Lib.hid hq5; clear ho5 hq5 d0 d1 d2 d3 d4 hBw)
        generalize hLL : ps.take k ++ [(⟨num, size, time2, tag, blob⟩ : PartD)] = LL at *
        have HLL := Lib.hid hLL
        have HLEN : Hid (LL.length = k + 1) := (by rw [← hLL, List.length_append, HLK.out]; rfl : LL.length = k + 1)
        clear hLL
        go_loopw [8, 10] (fun v i wr => ∃ i2 : Nat, i2 ≤ n ∧ i = .int .i64 (i2 : Int) ∧ Hid (OwnP w2 wr v (LL ++ (ps.take i2).filter (fun q => decide (num < q.num)))) ∧ Hid (Q w2 wr) ∧ v.oneCell' = true) (fun _ i _ => n - (intOf i).toNat)
        case atStart => exact ⟨0, by omega, rfl, show OwnP w2 w5 v5 (LL ++ (ps.take 0).filter _) from by simpa using HO5.out, HQ5.out, HO5.out.one⟩
        case round =>
          clear HO5 HQ5
          obtain ⟨i2, hi2, rfl, HO, HQ, hv1⟩ := hrel
          by_cases hlt : i2 < n
          · have g1 : decide (i2 < n) = true := by simpa using hlt
            have hBw := hB2.go HQ.out
            have cuw := hBw.bu.c6
            have cu : ∀ m : QW wr, m.val.cell? ⟨N0, 6, none⟩ = some (.slice _ n cap) := fun m => m.cell hBw.bu.c6
            have cp : ∀ m : QW wr, m.val.cell? ⟨N0 + 1, 0, none⟩ = some (.int .i64 num) := fun m => m.cell hBw.bp.c0
            obtain ⟨g5, off5, hA5, e0, e1, e2, e3, e4⟩ := (HH.out.q hBw.q).at hlt
            cases hA5
            have ck : ∀ m : QW wr, m.val.cell? ⟨_, _ + i2 * 5, none⟩ = some (.int .i64 (gP ps i2).num) := fun m => m.cell e0
            have hts : ps.take (i2 + 1) = ps.take i2 ++ [gP ps i2] := by rw [List.take_succ_eq_append_getElem (by rw [← hnl.out]; exact hlt)]; simp [gP, List.getD, (show i2 < ps.length by rw [← hnl.out]; exact hlt)]
            by_cases hv : num < (gP ps i2).num
            · have g2 : decide (num < (gP ps i2).num) = true := by simpa using hv
              have HF : Hid (LL ++ (ps.take (i2 + 1)).filter (fun q => decide (num < q.num)) = LL ++ (ps.take i2).filter (fun q => decide (num < q.num)) ++ [gP ps i2]) := (by rw [hts, List.filter_append, List.append_assoc]; simp [g2] : LL ++ (ps.take (i2 + 1)).filter (fun q => decide (num < q.num)) = LL ++ (ps.take i2).filter (fun q => decide (num < q.num)) ++ [gP ps i2])
              have HFL : Hid ((LL ++ (ps.take i2).filter (fun q => decide (num < q.num))).length ≤ 60) := (by rw [List.length_append, HLEN.out]; have h1 := List.length_filter_le (fun q : PartD => decide (num < q.num)) (ps.take i2); rw [List.length_take] at h1; omega : (LL ++ (ps.take i2).filter (fun q => decide (num < q.num))).length ≤ 60)
              clear hts hv
              generalize LL ++ (ps.take i2).filter (fun q => decide (num < q.num)) = FF at *
              go_wp2_with fail
              refine wp_region_q (by kernel_rfl) (by kernel_rfl) ?_
              (repeat (go_big_quiet_step (fail)))
              refine wpQuiet_nil ?_
              rintro wb ⟨mb, hmb⟩
              have hqb : Q wr wb := by rw [hmb]; exact mb.le
              have HOb := Lib.hid (HO.out.q hqb)
              have HQb := Lib.hid (HQ.out.trans hqb)
              have f0 := hqb.cell e0
              have f1 := hqb.cell e1
              have f2 := hqb.cell e2
              have f3 := hqb.cell e3
              have f4 := hqb.cell e4
              have f5 := hqb.cell cuw
              clear hmb mb hqb cu cp ck
              go_wp2_with (at_builtin; refine wpList_append_p rfl (.tmp 69) (.tmp 75) rfl w2 wb _ FF (gP ps i2) (by rfl) HOb.out (by rfl) HQb.out (by have := HFL.out; omega) ?_; intro v7 w7 ho7 hq7 _; have HO7 := Lib.hid ho7; have HQ7 := Lib.hid hq7; have hv7 := ho7.one; clear ho7 hq7)
              go_roundw
              case rel => exact ⟨i2 + 1, hlt, by go_num, by rw [HF.out]; exact HO7.out, HQ7.out, hv7⟩
              case measure => simp [intOf]; omega
            · have g2 : decide (num < (gP ps i2).num) = false := by simpa using hv
              have HF : Hid ((ps.take (i2 + 1)).filter (fun q => decide (num < q.num)) = (ps.take i2).filter (fun q => decide (num < q.num))) := (by rw [hts, List.filter_append]; simp [g2] : (ps.take (i2 + 1)).filter (fun q => decide (num < q.num)) = (ps.take i2).filter (fun q => decide (num < q.num)))
              clear hts hv
              go_wp2_with fail
              refine wp_region_q (by kernel_rfl) (by kernel_rfl) ?_
              (repeat (go_big_quiet_step (fail)))
              refine wpQuiet_nil ?_
              rintro wb ⟨mb, hmb⟩
              have hqb : Q wr wb := by rw [hmb]; exact mb.le
              have HOb := Lib.hid (HO.out.q hqb)
              have HQb := Lib.hid (HQ.out.trans hqb)
              clear hmb mb hqb cu cp ck
              go_wp2_with fail
              go_roundw
              case rel => exact ⟨i2 + 1, hlt, by go_num, by rw [HF.out]; exact HOb.out, HQb.out, hv1⟩
              case measure => simp [intOf]; omega
          · have HIN : Hid (i2 = n) := (show i2 = n by omega)
            have g1 : decide (i2 < n) = false := by simpa using hlt
            have hBw := hB2.go HQ.out
            have cuw := hBw.bu.c6
            have e9 : LL ++ (ps.take i2).filter (fun q => decide (num < q.num)) = putL ps ⟨num, size, time2, tag, blob⟩ := by
              have e8 : ps.take i2 = ps := List.take_of_length_le (by have := HIN.out; have := hnl.out; omega)
              rw [← hput.out, hat, ← HLL.out, e8]
            rw [e9] at HO
            obtain ⟨A7, n7, c7, rfl⟩ := HO.out.slice
            have fu7 := hBw.bu.fz 6
            have hNw : N0 + 1 + 1 < w2.heap.size := (Array.getElem?_eq_some_iff.1 hB2.br).1
            have hob : ∀ b, (Value.slice A7 n7 c7).ownBlock = some b → N0 + 1 + 1 < b := fun b hb => by have := (HO.out.block hb).1; omega
            have hB8 := hBw.set6 (.slice A7 n7 c7)
            have ho8 : OwnP w (wr.setCell ⟨N0, 6, none⟩ (.slice A7 n7 c7)) (.slice A7 n7 c7) (putL ps ⟨num, size, time2, tag, blob⟩) := (HO.out.g (grownBy_setCell6 wr N0 6 (.slice A7 n7 c7)) (fun b hb e => by have := hob b hb; cases e; omega)).base hB2.q.size
            have HP9 := OwnP.g ho8 (row := some (N0 + 1 + 1)) (w' := (wr.setCell ⟨N0, 6, none⟩ (.slice A7 n7 c7)).setRow (N0 + 1 + 1) (upL ⟨seq, bucket, key, type, owner, time⟩ (.slice A7 n7 c7)).toArray) ⟨rfl, rfl, rfl, by simp [World.setRow], fun b _ hb => setRow_other _ _ b _ (fun e => hb (by rw [e]))⟩ (fun b hb e => by have := hob b hb; cases e; omega)
            have HP9 := Lib.hid HP9
            clear ho8 e9 hlt hv1
            go_upto_region 17 with (fail)
            go_step
            refine wpList_load_row rfl 26 (.tmp 2) rfl N0 (by rfl) 26 _ (0, 0) _ hB8.bu Tryd.underlying26 rfl infoU ?_
            simp only [Act.put, List.setIfInBounds_toArray, List.set_cons_succ, List.set_cons_zero]
            refine wpList_store_row rfl 26 (.tmp 4) (.tmp 79) rfl (N0 + 1 + 1) (upL ⟨seq, bucket, key, type, owner, time⟩ (.slice A7 n7 c7)).toArray (by rfl) (by rfl) 26 _ hB8.br infoU rfl (upL_one _ _ rfl) ?_
            obtain ⟨h1, h2⟩ := hB8.put ⟨seq, bucket, key, type, owner, time⟩ (.slice A7 n7 c7)
            go_wp2_with fail
            exact bodyPost_ret (results_up rfl (by rfl) h1) rfl ⟨⟨_, rfl, HP9.out⟩, h2⟩
    · have HKN : Hid (k = n) := (show k = n by omega)
      have g1 : decide (k < n) = false := by simpa using hlt
      clear hlt
      go_wp2_with fail
      refine wp_region_q (by kernel_rfl) (by kernel_rfl) ?_
      (repeat (go_big_quiet_step (fail)))
      refine wpQuiet_nil ?_
      rintro wa ⟨ma, hma⟩
      have hqa : Q wr wa := by rw [hma]; exact ma.le
      have HO := Lib.hid (HO.out.q hqa)
      have HQ := Lib.hid (HQ.out.trans hqa)
      clear hma ma hqa
      have hat : atP ps num = k := atP_eq (by rw [← hnl.out]; exact hk) hj.out (.inl (HKN.out.trans hnl.out))
      have hBw := hB2.go HQ.out
      have d0 := hBw.bp.c0
      have d1 := hBw.bp.c1
      have d2 := hBw.bp.c2
      have d3 := hBw.bp.c3
      have d4 := hBw.bp.c4
      have hlk : (ps.take k).length = k := by rw [List.length_take]; have := hnl.out; omega
      have HLK := Lib.hid hlk
      clear hlk
      go_upto_region 10 with (fail)
      go_wp2_with (at_builtin; refine wpList_append_p rfl (.tmp 49) (.tmp 51) rfl w2 wa _ (ps.take k) ⟨num, size, time2, tag, blob⟩ (by rfl) HO.out (by rfl) HQ.out (by rw [HLK.out]; omega) ?_; intro v5 w5 ho5 hq5 _; have HO5 := Lib.hid ho5; have HQ5 := Lib.hid hq5; clear ho5 hq5 d0 d1 d2 d3 d4 hBw)
      generalize hLL : ps.take k ++ [(⟨num, size, time2, tag, blob⟩ : PartD)] = LL at *
      have HLL := Lib.hid hLL
      have HLEN : Hid (LL.length = k + 1) := (by rw [← hLL, List.length_append, HLK.out]; rfl : LL.length = k + 1)
      clear hLL
      go_loopw [8, 10] (fun v i wr => ∃ i2 : Nat, i2 ≤ n ∧ i = .int .i64 (i2 : Int) ∧ Hid (OwnP w2 wr v (LL ++ (ps.take i2).filter (fun q => decide (num < q.num)))) ∧ Hid (Q w2 wr) ∧ v.oneCell' = true) (fun _ i _ => n - (intOf i).toNat)
      case atStart => exact ⟨0, by omega, rfl, show OwnP w2 w5 v5 (LL ++ (ps.take 0).filter _) from by simpa using HO5.out, HQ5.out, HO5.out.one⟩
      case round =>
        clear HO5 HQ5
        obtain ⟨i2, hi2, rfl, HO, HQ, hv1⟩ := hrel
        by_cases hlt : i2 < n
        · have g1 : decide (i2 < n) = true := by simpa using hlt
          have hBw := hB2.go HQ.out
          have cuw := hBw.bu.c6
          have cu : ∀ m : QW wr, m.val.cell? ⟨N0, 6, none⟩ = some (.slice A n cap) := fun m => m.cell hBw.bu.c6
          have cp : ∀ m : QW wr, m.val.cell? ⟨N0 + 1, 0, none⟩ = some (.int .i64 num) := fun m => m.cell hBw.bp.c0
          obtain ⟨g5, off5, rfl, e0, e1, e2, e3, e4⟩ := (HH.out.q hBw.q).at hlt
          have ck : ∀ m : QW wr, m.val.cell? ⟨_, _ + i2 * 5, none⟩ = some (.int .i64 (gP ps i2).num) := fun m => m.cell e0
          have hts : ps.take (i2 + 1) = ps.take i2 ++ [gP ps i2] := by rw [List.take_succ_eq_append_getElem (by rw [← hnl.out]; exact hlt)]; simp [gP, List.getD, (show i2 < ps.length by rw [← hnl.out]; exact hlt)]
          by_cases hv : num < (gP ps i2).num
          · have g2 : decide (num < (gP ps i2).num) = true := by simpa using hv
            have HF : Hid (LL ++ (ps.take (i2 + 1)).filter (fun q => decide (num < q.num)) = LL ++ (ps.take i2).filter (fun q => decide (num < q.num)) ++ [gP ps i2]) := (by rw [hts, List.filter_append, List.append_assoc]; simp [g2] : LL ++ (ps.take (i2 + 1)).filter (fun q => decide (num < q.num)) = LL ++ (ps.take i2).filter (fun q => decide (num < q.num)) ++ [gP ps i2])
            have HFL : Hid ((LL ++ (ps.take i2).filter (fun q => decide (num < q.num))).length ≤ 60) := (by rw [List.length_append, HLEN.out]; have h1 := List.length_filter_le (fun q : PartD => decide (num < q.num)) (ps.take i2); rw [List.length_take] at h1; omega : (LL ++ (ps.take i2).filter (fun q => decide (num < q.num))).length ≤ 60)
            clear hts hv
            generalize LL ++ (ps.take i2).filter (fun q => decide (num < q.num)) = FF at *
            go_wp2_with fail
            refine wp_region_q (by kernel_rfl) (by kernel_rfl) ?_
            (repeat (go_big_quiet_step (fail)))
            refine wpQuiet_nil ?_
            rintro wb ⟨mb, hmb⟩
            have hqb : Q wr wb := by rw [hmb]; exact mb.le
            have HOb := Lib.hid (HO.out.q hqb)
            have HQb := Lib.hid (HQ.out.trans hqb)
            have f0 := hqb.cell e0
            have f1 := hqb.cell e1
            have f2 := hqb.cell e2
            have f3 := hqb.cell e3
            have f4 := hqb.cell e4
            have f5 := hqb.cell cuw
            clear hmb mb hqb cu cp ck
            go_wp2_with (at_builtin; refine wpList_append_p rfl (.tmp 69) (.tmp 75) rfl w2 wb _ FF (gP ps i2) (by rfl) HOb.out (by rfl) HQb.out (by have := HFL.out; omega) ?_; intro v7 w7 ho7 hq7 _; have HO7 := Lib.hid ho7; have HQ7 := Lib.hid hq7; have hv7 := ho7.one; clear ho7 hq7)
            go_roundw
            case rel => exact ⟨i2 + 1, hlt, by go_num, by rw [HF.out]; exact HO7.out, HQ7.out, hv7⟩
            case measure => simp [intOf]; omega
          · have g2 : decide (num < (gP ps i2).num) = false := by simpa using hv
            have HF : Hid ((ps.take (i2 + 1)).filter (fun q => decide (num < q.num)) = (ps.take i2).filter (fun q => decide (num < q.num))) := (by rw [hts, List.filter_append]; simp [g2] : (ps.take (i2 + 1)).filter (fun q => decide (num < q.num)) = (ps.take i2).filter (fun q => decide (num < q.num)))
            clear hts hv
            go_wp2_with fail
            refine wp_region_q (by kernel_rfl) (by kernel_rfl) ?_
            (repeat (go_big_quiet_step (fail)))
            refine wpQuiet_nil ?_
            rintro wb ⟨mb, hmb⟩
            have hqb : Q wr wb := by rw [hmb]; exact mb.le
            have HOb := Lib.hid (HO.out.q hqb)
            have HQb := Lib.hid (HQ.out.trans hqb)
            clear hmb mb hqb cu cp ck
            go_wp2_with fail
            go_roundw
            case rel => exact ⟨i2 + 1, hlt, by go_num, by rw [HF.out]; exact HOb.out, HQb.out, hv1⟩
            case measure => simp [intOf]; omega
        · have HIN : Hid (i2 = n) := (show i2 = n by omega)
          have g1 : decide (i2 < n) = false := by simpa using hlt
          have hBw := hB2.go HQ.out
          have cuw := hBw.bu.c6
          have e9 : LL ++ (ps.take i2).filter (fun q => decide (num < q.num)) = putL ps ⟨num, size, time2, tag, blob⟩ := by
            have e8 : ps.take i2 = ps := List.take_of_length_le (by have := HIN.out; have := hnl.out; omega)
            rw [← hput.out, hat, ← HLL.out, e8]
          rw [e9] at HO
          obtain ⟨A7, n7, c7, rfl⟩ := HO.out.slice
          have fu7 := hBw.bu.fz 6
          have hNw : N0 + 1 + 1 < w2.heap.size := (Array.getElem?_eq_some_iff.1 hB2.br).1
          have hob : ∀ b, (Value.slice A7 n7 c7).ownBlock = some b → N0 + 1 + 1 < b := fun b hb => by have := (HO.out.block hb).1; omega
          have hB8 := hBw.set6 (.slice A7 n7 c7)
          have ho8 : OwnP w (wr.setCell ⟨N0, 6, none⟩ (.slice A7 n7 c7)) (.slice A7 n7 c7) (putL ps ⟨num, size, time2, tag, blob⟩) := (HO.out.g (grownBy_setCell6 wr N0 6 (.slice A7 n7 c7)) (fun b hb e => by have := hob b hb; cases e; omega)).base hB2.q.size
          have HP9 := OwnP.g ho8 (row := some (N0 + 1 + 1)) (w' := (wr.setCell ⟨N0, 6, none⟩ (.slice A7 n7 c7)).setRow (N0 + 1 + 1) (upL ⟨seq, bucket, key, type, owner, time⟩ (.slice A7 n7 c7)).toArray) ⟨rfl, rfl, rfl, by simp [World.setRow], fun b _ hb => setRow_other _ _ b _ (fun e => hb (by rw [e]))⟩ (fun b hb e => by have := hob b hb; cases e; omega)
          have HP9 := Lib.hid HP9
          clear ho8 e9 hlt hv1
          go_upto_region 17 with (fail)
          go_step
          refine wpList_load_row rfl 26 (.tmp 2) rfl N0 (by rfl) 26 _ (0, 0) _ hB8.bu Tryd.underlying26 rfl infoU ?_
          simp only [Act.put, List.setIfInBounds_toArray, List.set_cons_succ, List.set_cons_zero]
          refine wpList_store_row rfl 26 (.tmp 4) (.tmp 79) rfl (N0 + 1 + 1) (upL ⟨seq, bucket, key, type, owner, time⟩ (.slice A7 n7 c7)).toArray (by rfl) (by rfl) 26 _ hB8.br infoU rfl (upL_one _ _ rfl) ?_
          obtain ⟨h1, h2⟩ := hB8.put ⟨seq, bucket, key, type, owner, time⟩ (.slice A7 n7 c7)
          go_wp2_with fail
          exact bodyPost_ret (results_up rfl (by rfl) h1) rfl ⟨⟨_, rfl, HP9.out⟩, h2⟩
theorem RPut_any (u : UpD) (A : Option Addr) (n cap : Nat) (ps : List PartD) (p : PartD) (w : World) (h : PartsAt w A n ps) (hok : OkP ps) (hp : p.tag.length ≤ 140737488355328) (hn : n ≤ 9223372036854775807) :
    Calls Tryd.prog 15 #[upV u (.slice A n cap), partV p] w fun e w' => (((rightB ps && mayB p) = true ∧ ∃ v, e = .returned (.tuple #[upV u v, .bool true]) ∧ OwnP w w' v (putL ps p)) ∨ ((rightB ps && mayB p) = false ∧ e = .returned (.tuple #[upV zU (.slice none 0 0), .bool false]))) ∧ Q w w' := by
  cases hb : (rightB ps && mayB p) with
  | false =>
    refine (RPut_bad u A n cap ps p w h hok hp (by omega) hb).mono ?_
    rintro e w1 ⟨rfl, hq⟩
    exact ⟨.inr ⟨rfl, rfl⟩, hq⟩
  | true =>
    have h2 := hb
    simp only [Bool.and_eq_true] at h2
    refine (RPut_ok u A n cap ps p w h hok hp h2.1 h2.2).mono ?_
    rintro e w1 ⟨hv, hq⟩
    exact ⟨.inl ⟨rfl, hv⟩, hq⟩
end Go.Proofs.YtbhgekhcpagkoaaDoor
/- Pages of parts. -/
set_option linter.unusedVariables false
set_option linter.unusedSimpArgs false
namespace Go.Proofs.YtbhgekhcpagkoaaDoor
open Go Go.RowKit
theorem take_gP (ps : List PartD) (k : Nat) (hk : k < ps.length) : ps.take (k + 1) = ps.take k ++ [gP ps k] := by
  rw [List.take_succ_eq_append_getElem hk]; simp [gP, List.getD, hk]
def filP (ps : List PartD) (x : Int) : List PartD := ps.filter fun q => decide (x < q.num)
theorem filP_len (ps : List PartD) (x : Int) (k : Nat) : (filP (ps.take k) x).length ≤ k := by
  have := List.length_filter_le (fun q : PartD => decide (x < q.num)) (ps.take k)
  unfold filP; rw [List.length_take] at this; omega
theorem filP_yes {ps : List PartD} {x : Int} {k : Nat} (hk : k < ps.length) (h : x < (gP ps k).num) : filP (ps.take (k + 1)) x = filP (ps.take k) x ++ [gP ps k] := by
  unfold filP; rw [take_gP ps k hk, List.filter_append]; simp [h]
theorem filP_no {ps : List PartD} {x : Int} {k : Nat} (hk : k < ps.length) (h : ¬ x < (gP ps k).num) : filP (ps.take (k + 1)) x = filP (ps.take k) x := by
  unfold filP; rw [take_gP ps k hk, List.filter_append]; simp [h]
def mostN (most : Int) : Nat := (min (max most 0) 1000).toNat
def pageL (ps : List PartD) (x most : Int) : List PartD := (filP ps x).take (mostN most)
def moreB (ps : List PartD) (x most : Int) : Bool := decide (mostN most < (filP ps x).length) && decide (0 < mostN most)
theorem eq_nil (a : Addr) (n cap : Nat) (w : World) : (binOp BinOp.eql 22 (.slice (some a) n cap) (.slice none 0 0)).run Tryd.prog w = .ok (.bool false) w := by kernel_rfl
set_option maxRecDepth 100000 in
set_option maxHeartbeats 2000000 in
theorem Clone_any (g off n cap : Nat) (ps : List PartD) (w : World) (h : PartsAt w (some ⟨g, off, none⟩) n ps) (hn : n ≤ 1000) :
    Calls Tryd.prog 40 #[.slice (some ⟨g, off, none⟩) n cap] w fun e w' => (∃ v, e = .returned v ∧ OwnP w w' v ps) ∧ Q w w' := by
  have HH := Lib.hid h
  clear h
  have hen := eq_nil
  have ho0 : OwnP w (w.alloc (.cells #[] 31)) (.slice (some ⟨w.heap.size, 0, none⟩) 0 0) [] := ⟨rfl, .inr ⟨w.heap.size, 0, #[], rfl, Nat.le_refl _, (MapKept.heap_alloc w _).1, Nat.le_refl _, by unfold maxLen; omega, rfl, rfl⟩⟩
  have hp0 : PartsAt (w.alloc (.cells #[] 31)) (some ⟨g, off, none⟩) n ps := HH.out.q ((Q.refl w).alloc _)
  go_enter Tryd.func40, Tryd.ntmps40
  go_wp2_with (at_builtin; refine wpList_append_ps rfl (.tmp 5) (.tmp 6) rfl w (w.alloc (.cells #[] 31)) _ [] ps _ n cap (by rfl) ho0 (by rfl) hp0 ((Q.refl w).alloc _) (by simp; omega) ?_; intro v5 w5 ho5 hq5 _; have HO5 := Lib.hid ho5; have HQ5 := Lib.hid hq5; clear ho5 hq5)
  go_ret
  exact ⟨⟨_, rfl, HO5.out⟩, HQ5.out⟩
set_option maxRecDepth 100000 in
set_option maxHeartbeats 4000000 in
theorem Page_any (u : UpD) (A : Option Addr) (n cap : Nat) (ps : List PartD) (x most : Int) (w : World) (h : PartsAt w A n ps) (hb : n * 48 ≤ 140737488355328) :
    Calls Tryd.prog 20 #[upV u (.slice A n cap), .int .i64 x, .int .i64 most] w fun e w' => (∃ v, e = .returned (.tuple #[v, .bool (moreB ps x most)]) ∧ OwnP w w' v (pageL ps x most)) ∧ Q w w' := by
  have hnl := Lib.hid h.1
  obtain ⟨seq, bucket, key, type, owner, time⟩ := u
  unfold upV upL
  obtain ⟨W1, hW1⟩ : ∃ W1, W1 = w.alloc (.cells (upL ⟨seq, bucket, key, type, owner, time⟩ (.slice A n cap)).toArray 26) := ⟨_, rfl⟩
  have hbu : BoxU W1 w.heap.size ⟨seq, bucket, key, type, owner, time⟩ (.slice A n cap) := by rw [hW1]; exact BoxU.new w _ _
  have hq1 : Q w W1 := by rw [hW1]; exact (Q.refl w).alloc _
  have HW1 := Lib.hid hW1
  obtain ⟨m, hm⟩ : ∃ m : Nat, min (max most 0) 1000 = (m : Int) := ⟨(min (max most 0) 1000).toNat, by omega⟩
  have hm2 : mostN most = m := by unfold mostN; omega
  have hm1000 : m ≤ 1000 := by omega
  simp only
  go_enter Tryd.func20, Tryd.ntmps20
  go_wp2_with fail
  have HM := Lib.hid (And.intro hm (And.intro hm2 hm1000))
  have hw1 : (w.alloc (.cells #[.int .i64 seq, .string ⟨bucket.toArray⟩, .string ⟨key.toArray⟩, .string ⟨type.toArray⟩, .string ⟨owner.toArray⟩, .int .i64 time, .slice A n cap] 26)) = W1 := HW1.out.symm
  rw [hw1]
  have HH := Lib.hid h
  clear hm hm2 hm1000 hW1 HW1 hw1 hbu h
  go_loopw [8, 17] (fun v i wr => ∃ k : Nat, k ≤ n ∧ i = .int .i64 (k : Int) ∧ Hid (OwnP w wr v (filP (ps.take k) x)) ∧ Hid (Q w wr)) (fun _ i _ => n - (intOf i).toNat)
  case atStart => exact ⟨0, by omega, rfl, by rw [List.take_zero]; exact OwnP.nil _ _, hq1⟩
  case round =>
    clear hq1
    obtain ⟨k, hk, rfl, HO, HQ⟩ := hrel
    by_cases hlt : k < n
    · have hkl : k < ps.length := by rw [← hnl.out]; exact hlt
      have g1 : decide (k < n) = true := by simpa using hlt
      obtain ⟨g, off, rfl, c0, c1, c2, c3, c4⟩ := (HH.out.q HQ.out).at hlt
      have hqb : Q wr (wr.alloc (.cells (partL (gP ps k)).toArray 31)) := (Q.refl wr).alloc _
      have HOb := Lib.hid (HO.out.q hqb)
      have HQb := Lib.hid (HQ.out.trans hqb)
      clear hqb
      have HFL := Lib.hid (filP_len ps x k)
      by_cases hv : x < (gP ps k).num
      · have g2 : decide (x < (gP ps k).num) = true := by simpa using hv
        have HY := Lib.hid (filP_yes hkl hv)
        clear hv
        have hbx := BoxP.new wr (gP ps k)
        go_upto_region 7 with (fail)
        obtain ⟨Wb, hWb⟩ : ∃ Wb, wr.alloc (.cells #[.int .i64 (gP ps k).num, .int .i64 (gP ps k).size, .int .i64 (gP ps k).time, .string ⟨(gP ps k).tag.toArray⟩, .int .i64 (gP ps k).blob] 31) = Wb := ⟨_, rfl⟩
        have hWb2 : wr.alloc (.cells (partL (gP ps k)).toArray 31) = Wb := hWb
        rw [hWb]
        rw [hWb2] at HOb HQb hbx
        clear hWb hWb2 c0 c1 c2 c3 c4
        have d0 := hbx.c0
        have d1 := hbx.c1
        have d2 := hbx.c2
        have d3 := hbx.c3
        have d4 := hbx.c4
        go_wp2_with (at_builtin; refine wpList_append_p rfl (.tmp 25) (.tmp 27) rfl w Wb _ (filP (ps.take k) x) (gP ps k) (by rfl) HOb.out (by rfl) HQb.out (by have := HFL.out; omega) ?_; intro v5 w5 ho5 hq5 _; have HO5 := Lib.hid ho5; have HQ5 := Lib.hid hq5; clear ho5 hq5)
        go_roundw
        case rel => exact ⟨k + 1, hlt, by go_num, by rw [HY.out]; exact HO5.out, HQ5.out⟩
        case measure => simp [intOf]; omega
      · have g2 : decide (x < (gP ps k).num) = false := by simpa using hv
        have HY := Lib.hid (filP_no hkl hv)
        clear hv
        go_wp2_with fail
        go_roundw
        case rel => exact ⟨k + 1, hlt, by go_num, by rw [HY.out]; exact HOb.out, HQb.out⟩
        case measure => simp [intOf]; omega
    · have HKN : Hid (k = n) := (show k = n by omega)
      have g1 : decide (k < n) = false := by simpa using hlt
      have e1 : ps.take k = ps := List.take_of_length_le (by have := HKN.out; have := hnl.out; omega)
      rw [e1] at HO
      obtain ⟨A8, c8, hv8, hl8, hc8, hP8, hown8⟩ := HO.out.parts
      subst hv8
      obtain ⟨L, hL⟩ : ∃ L, L = (filP ps x).length := ⟨_, rfl⟩
      rw [← hL] at hP8 hl8 HO ⊢
      have HL := Lib.hid hL
      obtain ⟨hm, hm2, hm1000⟩ := HM.out
      clear hL e1 hlt hm
      have hm2' := Lib.hid hm2
      clear hm2
      by_cases hLm : L ≤ m
      · have g2 : decide (L ≤ m) = true := by simpa using hLm
        have e2 : pageL ps x most = filP ps x := by unfold pageL; rw [hm2'.out]; exact List.take_of_length_le (by rw [← HL.out]; exact hLm)
        have e3 : moreB ps x most = false := by unfold moreB; rw [hm2'.out, ← HL.out, decide_eq_false (by omega)]; rfl
        have E2 := Lib.hid (And.intro e2 e3)
        clear e2 e3 hLm hP8 hown8
        go_wp2_with fail
        go_ret2
        exact ⟨⟨_, by rw [E2.out.2]; rfl, by rw [E2.out.1]; exact HO.out⟩, HQ.out⟩
      · have g2 : decide (L ≤ m) = false := by simpa using hLm
        obtain ⟨g8, off8, rfl, hg8, hc⟩ := hP8.2 (by omega)
        obtain ⟨rfl, hgw, _⟩ := hown8 g8 off8 rfl
        have hPm := Lib.hid (hP8.take m (by omega))
        have hmL : (m : Int) ≤ (L : Int) := by omega
        have hmc : (m : Int) ≤ (c8 : Int) := by omega
        have e3 : moreB ps x most = decide (0 < m) := by unfold moreB; rw [hm2'.out, ← HL.out, decide_eq_true (show m < L by omega)]; rfl
        have e2 : pageL ps x most = (filP ps x).take m := by unfold pageL; rw [hm2'.out]
        have E2 := Lib.hid (And.intro e2 e3)
        clear e2 e3 hLm hP8 hown8 hc
        go_wp2_with fail
        refine (Clone_any g8 0 m c8 _ _ hPm.out hm1000).mono ?_
        rintro e w9 ⟨⟨v9, rfl, ho9⟩, hq9⟩
        have HO9 := Lib.hid (ho9.base HQ.out.size)
        have HQ9 := Lib.hid (HQ.out.trans hq9)
        clear ho9 hq9
        go_wp2_with fail
        go_ret2
        exact ⟨⟨v9, by rw [E2.out.2]; simp, by rw [E2.out.1]; exact HO9.out⟩, HQ9.out⟩
theorem filP_split (ps : List PartD) (x : Int) (k : Nat) : filP ps x = filP (ps.take k) x ++ filP (ps.drop k) x := by
  unfold filP; rw [← List.filter_append, List.take_append_drop]
theorem filP_more {ps : List PartD} {x : Int} {k : Nat} (hk : k < ps.length) (h : x < (gP ps k).num) : (filP (ps.take k) x).length < (filP ps x).length := by
  rw [filP_split ps x (k + 1), filP_yes hk h]; simp <;> omega
set_option maxRecDepth 100000 in
set_option maxHeartbeats 4000000 in
theorem RPage_any (u : UpD) (A : Option Addr) (n cap : Nat) (ps : List PartD) (x most : Int) (w : World) (h : PartsAt w A n ps) (hb : n * 48 ≤ 140737488355328) :
    Calls Tryd.prog 21 #[upV u (.slice A n cap), .int .i64 x, .int .i64 most] w fun e w' => (∃ v, e = .returned (.tuple #[v, .bool (moreB ps x most)]) ∧ OwnP w w' v (pageL ps x most)) ∧ Q w w' := by
  have hnl := Lib.hid h.1
  obtain ⟨seq, bucket, key, type, owner, time⟩ := u
  unfold upV upL
  obtain ⟨W1, hW1⟩ : ∃ W1, W1 = w.alloc (.cells (upL ⟨seq, bucket, key, type, owner, time⟩ (.slice A n cap)).toArray 26) := ⟨_, rfl⟩
  have hbu : BoxU W1 w.heap.size ⟨seq, bucket, key, type, owner, time⟩ (.slice A n cap) := by rw [hW1]; exact BoxU.new w _ _
  have hq1 : Q w W1 := by rw [hW1]; exact (Q.refl w).alloc _
  have HW1 := Lib.hid hW1
  obtain ⟨m, hm⟩ : ∃ m : Nat, min (max most 0) 1000 = (m : Int) := ⟨(min (max most 0) 1000).toNat, by omega⟩
  have hm2 : mostN most = m := by unfold mostN; omega
  have hm1000 : m ≤ 1000 := by omega
  obtain ⟨N0, hN⟩ : ∃ N0, N0 = w.heap.size := ⟨_, rfl⟩
  rw [← hN] at hbu
  simp only
  go_enter Tryd.func21, Tryd.ntmps21
  go_wp2_with fail
  have HM := Lib.hid (And.intro hm (And.intro hm2 hm1000))
  have hw1 : (w.alloc (.cells #[.int .i64 seq, .string ⟨bucket.toArray⟩, .string ⟨key.toArray⟩, .string ⟨type.toArray⟩, .string ⟨owner.toArray⟩, .int .i64 time, .slice A n cap] 26)) = W1 := HW1.out.symm
  rw [hw1]
  try rw [← hN]
  have HH := Lib.hid h
  clear hm hm2 hm1000 hW1 HW1 hw1 h hN
  go_loopw [8, 9] (fun v i wr => ∃ k : Nat, k ≤ n ∧ i = .int .i64 (k : Int) ∧ Hid (OwnP W1 wr v (filP (ps.take k) x)) ∧ (filP (ps.take k) x).length ≤ m ∧ Hid (Q W1 wr)) (fun _ i _ => n - (intOf i).toNat)
  case atStart => exact ⟨0, by omega, rfl, by rw [List.take_zero]; exact OwnP.nil _ _, by simp [filP], Q.refl _⟩
  case round =>
    obtain ⟨k, hk, rfl, HO, hLm, HQ⟩ := hrel
    obtain ⟨A8, c8, hv8, hl8, hc8, hP8, hown8⟩ := HO.out.parts
    subst hv8
    clear hP8 hown8
    have cu := (hbu.q HQ.out).c6
    have HQw := Lib.hid (hq1.trans HQ.out)
    by_cases hlt : k < n
    · have hkl : k < ps.length := by rw [← hnl.out]; exact hlt
      have g1 : decide (k < n) = true := by simpa using hlt
      obtain ⟨g, off, rfl, c0, c1, c2, c3, c4⟩ := (HH.out.q HQw.out).at hlt
      have HFL := Lib.hid (filP_len ps x k)
      by_cases hv : x < (gP ps k).num
      · have g2 : decide ((gP ps k).num ≤ x) = false := by simp; omega
        have HY := Lib.hid (filP_yes hkl hv)
        have HX := Lib.hid (filP_more hkl hv)
        have HV := Lib.hid hv
        clear hv
        obtain ⟨L, hL⟩ : ∃ L, L = (filP (ps.take k) x).length := ⟨_, rfl⟩
        rw [← hL] at hl8 hLm HO ⊢
        have HL := Lib.hid hL
        clear hL
        by_cases he : L = m
        · have g3 : ((L : Int) == (m : Int)) = true := by simp; omega
          have e2 : pageL ps x most = filP (ps.take k) x := by
            unfold pageL; rw [HM.out.2.1, filP_split ps x k, List.take_append_of_le_length (by rw [← HL.out]; omega), List.take_of_length_le (by rw [← HL.out]; omega)]
          have e3 : moreB ps x most = decide (0 < m) := by unfold moreB; rw [HM.out.2.1, decide_eq_true (show m < (filP ps x).length by have := HX.out; rw [← HL.out] at this; omega)]; rfl
          have E2 := Lib.hid (And.intro e2 e3)
          clear e2 e3 he c1 c2 c3 c4
          go_wp2_with fail
          go_ret2
          exact ⟨⟨.slice A8 L c8, by rw [E2.out.2]; simp, by rw [E2.out.1]; exact HO.out.base hq1.size⟩, HQw.out⟩
        · have g3 : ((L : Int) == (m : Int)) = false := by simp; omega
          go_wp2_with (at_builtin; refine wpList_append_p rfl (.tmp 35) (.tmp 41) rfl W1 wr _ (filP (ps.take k) x) (gP ps k) (by rfl) HO.out (by rfl) HQ.out (by have := HFL.out; omega) ?_; intro v5 w5 ho5 hq5 _; have HO5 := Lib.hid ho5; have HQ5 := Lib.hid hq5; clear ho5 hq5)
          go_roundw
          case rel => exact ⟨k + 1, hlt, by go_num, by rw [HY.out]; exact HO5.out, by rw [HY.out, List.length_append, ← HL.out, List.length_singleton]; omega, HQ5.out⟩
          case measure => simp [intOf]; omega
      · have g2 : decide ((gP ps k).num ≤ x) = true := by simp; omega
        have HY := Lib.hid (filP_no hkl hv)
        clear hv
        go_wp2_with fail
        go_roundw
        case rel => exact ⟨k + 1, hlt, by go_num, by rw [HY.out]; exact HO.out, by rw [HY.out]; exact hLm, HQ.out⟩
        case measure => simp [intOf]; omega
    · have HKN : Hid (k = n) := (show k = n by omega)
      have g1 : decide (k < n) = false := by simpa using hlt
      have e1 : ps.take k = ps := List.take_of_length_le (by have := HKN.out; have := hnl.out; omega)
      rw [e1] at HO hLm hl8 ⊢
      have e2 : pageL ps x most = filP ps x := by unfold pageL; rw [HM.out.2.1]; exact List.take_of_length_le hLm
      have e3 : moreB ps x most = false := by unfold moreB; rw [HM.out.2.1, decide_eq_false (by omega)]; rfl
      have E2 := Lib.hid (And.intro e2 e3)
      clear e1 e2 e3 hlt hLm
      go_wp2_with fail
      go_ret2
      exact ⟨⟨_, by rw [E2.out.2]; rfl, by rw [E2.out.1]; exact HO.out.base hq1.size⟩, HQw.out⟩
end Go.Proofs.YtbhgekhcpagkoaaDoor
/- A sum that is being reckoned: what its struct holds; what was told. -/
set_option linter.unusedVariables false
namespace Go.Proofs.YtbhgekhcpagkoaaDoor
open Go Go.RowKit

theorem GX.st {S : List Nat} {a b : World} (h : GX S a b) {g : Nat} {l : List B32} (hg : g ∉ S) (hs : StAt a g l) : StAt b g l := by
  intro i hi
  obtain ⟨h1, h2⟩ := hs i hi
  have e : b.heap[g]? = a.heap[g]? := h.block g (lt_of_cell h1) hg
  exact ⟨by rw [← h1]; exact World.cell?_of_block e, by rw [← h2]; exact World.frozen?_of_block e⟩

/-- One way to reckon a sum: how many words, which function reckons a block, what it reckons. -/
structure Alg where
  n : Nat
  fn : Nat
  hi : Bool
  start : List B32
  mix : List B32 → List UInt8 → List B32
  n0 : 0 < n
  n8 : n ≤ 8
  len0 : start.length = n
  len : ∀ s b, s.length = n → (mix s b).length = n
  enters : ∀ (args : Array Value) (w : World), (callFunc fn args).run Tryd.prog w = .ok (.enter fn args) w
  call : ∀ (sb cap : Nat) (s : List B32) (b : List UInt8) (w : World), s.length = n → b.length = 64 → StAt w sb s →
    Calls Tryd.prog fn #[.slice (some ⟨sb, 0, none⟩) n cap, .agg (arrB b)] w fun e w' => e = .returned (.tuple #[]) ∧ StAt w' sb (mix s b) ∧ w.grownBy w' (some sb)
def blocksA (A : Alg) (l : List UInt8) : Nat → List B32
  | 0 => A.start
  | n + 1 => A.mix (blocksA A l n) (sub l (64 * n) (64 * n + 64))
theorem blocksA_length (A : Alg) (l : List UInt8) (n : Nat) : (blocksA A l n).length = A.n := by
  induction n with
  | zero => exact A.len0
  | succ n ih => exact A.len _ _ ih
theorem sub_append (l m : List UInt8) (i j : Nat) (h : j ≤ l.length) : sub (l ++ m) i j = sub l i j := by
  unfold sub; rw [List.take_append_of_le_length h]
theorem blocksA_append (A : Alg) (l m : List UInt8) (n : Nat) (h : 64 * n ≤ l.length) : blocksA A (l ++ m) n = blocksA A l n := by
  induction n with
  | zero => rfl
  | succ n ih => rw [blocksA, blocksA, ih (by omega), sub_append _ _ _ _ (by omega)]

/-- What the struct's cells hold. -/
def hashL (A : Alg) (sb cap : Nat) (bl : List UInt8) (many : Nat) (size : Nat) : List Value :=
  .slice (some ⟨sb, 0, none⟩) A.n cap :: (bl.map u8V ++ [.int .i64 many, .int .u64 size, .func (.func A.fn) #[] #[], .bool A.hi])
def HashAt (w : World) (A : Alg) (hb sb cap : Nat) (bl : List UInt8) (many size : Nat) : Prop :=
  w.heap[hb]? = some (.cells (hashL A sb cap bl many size).toArray 89 (0, 0)) ∧ bl.length = 64
theorem HashAt.cell {w : World} {A : Alg} {hb sb cap : Nat} {bl : List UInt8} {many size : Nat} (h : HashAt w A hb sb cap bl many size) (i : Nat) : w.cell? ⟨hb, i, none⟩ = (hashL A sb cap bl many size)[i]? := by
  rw [cell_of_row _ _ _ _ _ _ h.1]; simp
theorem hash_at {bl : List UInt8} (h : bl.length = 64) (x : Value) (t : List Value) (i : Nat) : (x :: (bl.map u8V ++ t))[65 + i]? = t[i]? := by
  rw [show 65 + i = (64 + i) + 1 from by omega, List.getElem?_cons_succ, List.getElem?_append_right (by simp; omega)]
  simp [h]
theorem HashAt.c0 {w : World} {A : Alg} {hb sb cap : Nat} {bl : List UInt8} {many size : Nat} (h : HashAt w A hb sb cap bl many size) : w.cell? ⟨hb, 0, none⟩ = some (.slice (some ⟨sb, 0, none⟩) A.n cap) := h.cell 0
theorem HashAt.c65 {w : World} {A : Alg} {hb sb cap : Nat} {bl : List UInt8} {many size : Nat} (h : HashAt w A hb sb cap bl many size) : w.cell? ⟨hb, 65, none⟩ = some (.int .i64 many) := by
  rw [h.cell]; exact hash_at h.2 _ _ 0
theorem HashAt.c66 {w : World} {A : Alg} {hb sb cap : Nat} {bl : List UInt8} {many size : Nat} (h : HashAt w A hb sb cap bl many size) : w.cell? ⟨hb, 66, none⟩ = some (.int .u64 size) := by
  rw [h.cell]; exact hash_at h.2 _ _ 1
theorem HashAt.c67 {w : World} {A : Alg} {hb sb cap : Nat} {bl : List UInt8} {many size : Nat} (h : HashAt w A hb sb cap bl many size) : w.cell? ⟨hb, 67, none⟩ = some (.func (.func A.fn) #[] #[]) := by
  rw [h.cell]; exact hash_at h.2 _ _ 2
theorem HashAt.c68 {w : World} {A : Alg} {hb sb cap : Nat} {bl : List UInt8} {many size : Nat} (h : HashAt w A hb sb cap bl many size) : w.cell? ⟨hb, 68, none⟩ = some (.bool A.hi) := by
  rw [h.cell]; exact hash_at h.2 _ _ 3
theorem HashAt.frozen {w : World} {A : Alg} {hb sb cap : Nat} {bl : List UInt8} {many size : Nat} (h : HashAt w A hb sb cap bl many size) (i : Nat) : w.frozen? ⟨hb, i, none⟩ = false := frozen_of_row w hb i _ _ h.1
theorem HashAt.lt {w : World} {A : Alg} {hb sb cap : Nat} {bl : List UInt8} {many size : Nat} (h : HashAt w A hb sb cap bl many size) : hb < w.heap.size := lt_of_heap h.1
theorem hash_set {bl : List UInt8} (h : bl.length = 64) (x : Value) (t : List Value) (i : Nat) (v : Value) : (x :: (bl.map u8V ++ t)).set (65 + i) v = x :: (bl.map u8V ++ t.set i v) := by
  rw [show 65 + i = (64 + i) + 1 from by omega, List.set_cons_succ, List.set_append, if_neg (by simp; omega)]
  simp [h]
theorem HashAt.setMany {w : World} {A : Alg} {hb sb cap : Nat} {bl : List UInt8} {many size : Nat} (h : HashAt w A hb sb cap bl many size) (m : Nat) : HashAt (w.setCell ⟨hb, 65, none⟩ (.int .i64 m)) A hb sb cap bl m size := by
  refine ⟨?_, h.2⟩
  rw [heap_setCell_same w hb 65 _ _ _ h.1]
  congr 2
  rw [← Array.toList_inj]
  simp only [Array.toList_setIfInBounds]
  exact hash_set h.2 _ _ 0 _
theorem HashAt.setSize {w : World} {A : Alg} {hb sb cap : Nat} {bl : List UInt8} {many size : Nat} (h : HashAt w A hb sb cap bl many size) (m : Nat) : HashAt (w.setCell ⟨hb, 66, none⟩ (.int .u64 m)) A hb sb cap bl many m := by
  refine ⟨?_, h.2⟩
  rw [heap_setCell_same w hb 66 _ _ _ h.1]
  congr 2
  rw [← Array.toList_inj]
  simp only [Array.toList_setIfInBounds]
  exact hash_set h.2 _ _ 1 _
theorem HashAt.setBlock {w : World} {A : Alg} {hb sb cap : Nat} {bl : List UInt8} {many size : Nat} (h : HashAt w A hb sb cap bl many size) (m : Nat) (p : List UInt8) (hm : m + p.length ≤ 64) :
    HashAt (w.setRow hb ((hashL A sb cap bl many size).toArray.toList.take (1 + m) ++ Lib.byteCells p ++ (hashL A sb cap bl many size).toArray.toList.drop (1 + m + p.length)).toArray) A hb sb cap (bl.take m ++ p ++ bl.drop (m + p.length)) many size := by
  have hl := h.2
  refine ⟨?_, by simp; omega⟩
  simp only [World.setRow, Array.getElem?_modify, if_true, h.1, Option.map_some]
  congr 2
  rw [← Array.toList_inj]
  simp only [hashL]
  rw [show 1 + m = m + 1 from by omega, show m + 1 + p.length = (m + p.length) + 1 from by omega, List.take_succ_cons, List.drop_succ_cons]
  rw [List.take_append_of_le_length (by simp; omega), List.drop_append_of_le_length (by simp; omega)]
  simp [Lib.byteCells, u8V, List.map_take, List.map_drop]
theorem HashAt.x {w w' : World} {A : Alg} {hb sb cap : Nat} {bl : List UInt8} {many size : Nat} {S : List Nat} (h : HashAt w A hb sb cap bl many size) (hg : GX S w w') (hS : hb ∉ S) : HashAt w' A hb sb cap bl many size := ⟨hg.heap hS h.1, h.2⟩

/-- t has been told, and its size is said to be size. -/
structure ToldZ (w : World) (A : Alg) (hb sb cap : Nat) (t : List UInt8) (size : Nat) : Prop where
  hash : ∃ bl, HashAt w A hb sb cap bl (t.length % 64) size ∧ bl.take (t.length % 64) = t.drop (t.length / 64 * 64)
  st : StAt w sb (blocksA A t (t.length / 64))
  ne : sb ≠ hb
def ToldAt (w : World) (A : Alg) (hb sb cap : Nat) (t : List UInt8) : Prop := ToldZ w A hb sb cap t (t.length % 18446744073709551616)
theorem ToldZ.x {w w' : World} {A : Alg} {hb sb cap : Nat} {t : List UInt8} {size : Nat} {S : List Nat} (h : ToldZ w A hb sb cap t size) (hg : GX S w w') (h1 : hb ∉ S) (h2 : sb ∉ S) : ToldZ w' A hb sb cap t size := by
  obtain ⟨⟨bl, hh, hb'⟩, hs, hn⟩ := h
  exact ⟨⟨bl, hh.x hg h1, hb'⟩, hg.st h2 hs, hn⟩
theorem ToldAt.x {w w' : World} {A : Alg} {hb sb cap : Nat} {t : List UInt8} {S : List Nat} (h : ToldAt w A hb sb cap t) (hg : GX S w w') (h1 : hb ∉ S) (h2 : sb ∉ S) : ToldAt w' A hb sb cap t := ToldZ.x h hg h1 h2
theorem ToldZ.ltH {w : World} {A : Alg} {hb sb cap : Nat} {t : List UInt8} {size : Nat} (h : ToldZ w A hb sb cap t size) : hb < w.heap.size := h.hash.elim fun _ h => h.1.lt
theorem ToldZ.ltS {w : World} {A : Alg} {hb sb cap : Nat} {t : List UInt8} {size : Nat} (h : ToldZ w A hb sb cap t size) : sb < w.heap.size :=
  lt_of_cell (h.st 0 (by rw [blocksA_length]; exact A.n0)).1
/-- A piece that does not fill the block. -/
theorem told_part (t q : List UInt8) (n : Nat) (hn : t.length % 64 + n < 64) (hq : n ≤ q.length) (bl : List UInt8) (hbl : bl.length = 64) (hb : bl.take (t.length % 64) = t.drop (t.length / 64 * 64)) :
    (t ++ q.take n).length % 64 = t.length % 64 + n ∧ (t ++ q.take n).length / 64 = t.length / 64 ∧
    (bl.take (t.length % 64) ++ q.take n ++ bl.drop (t.length % 64 + n)).take (t.length % 64 + n) = (t ++ q.take n).drop ((t ++ q.take n).length / 64 * 64) := by
  have h1 : (t ++ q.take n).length = t.length + n := by simp; omega
  have h2 : (t ++ q.take n).length / 64 = t.length / 64 := by rw [h1]; omega
  refine ⟨by rw [h1]; omega, h2, ?_⟩
  rw [h2, List.drop_append_of_le_length (by omega), ← hb]
  rw [List.take_append_of_le_length (by simp; omega)]
  rw [List.take_of_length_le (by simp; omega)]
/-- A piece that fills it. -/
theorem told_full (t q : List UInt8) (n : Nat) (hn : t.length % 64 + n = 64) (hq : n ≤ q.length) (bl : List UInt8) (hbl : bl.length = 64) (hb : bl.take (t.length % 64) = t.drop (t.length / 64 * 64)) :
    (t ++ q.take n).length % 64 = 0 ∧ (t ++ q.take n).length / 64 = t.length / 64 + 1 ∧
    sub (t ++ q.take n) (64 * (t.length / 64)) (64 * (t.length / 64) + 64) = bl.take (t.length % 64) ++ q.take n ++ bl.drop (t.length % 64 + n) := by
  have h1 : (t ++ q.take n).length = t.length + n := by simp; omega
  refine ⟨by rw [h1]; omega, by rw [h1]; omega, ?_⟩
  unfold sub
  rw [List.take_of_length_le (by rw [h1]; omega), List.drop_append_of_le_length (by omega), Nat.mul_comm, ← hb, hn, List.drop_of_length_le (l := bl) (by omega)]
  simp
theorem toldz_full {w : World} {A : Alg} {hb sb cap SZ : Nat} (t q : List UInt8) (n : Nat) (hn : t.length % 64 + n = 64) (hq : n ≤ q.length) (bl BK : List UInt8) (hbl : bl.length = 64) (hb' : bl.take (t.length % 64) = t.drop (t.length / 64 * 64))
    (hBK : bl.take (t.length % 64) ++ q.take n ++ bl.drop (t.length % 64 + n) = BK) (hH : HashAt w A hb sb cap BK 0 SZ) (hS : StAt w sb (A.mix (blocksA A t (t.length / 64)) BK)) (hne : sb ≠ hb) : ToldZ w A hb sb cap (t ++ q.take n) SZ := by
  obtain ⟨h1, h2, h3⟩ := told_full t q n hn hq bl hbl hb'
  refine ⟨⟨BK, by rw [h1]; exact hH, ?_⟩, ?_, hne⟩
  · rw [h1, h2, List.take_zero, List.drop_of_length_le (by omega)]
  · rw [h2, blocksA, h3, hBK, blocksA_append _ _ _ _ (by omega)]
    exact hS
theorem toldz_part {w : World} {A : Alg} {hb sb cap SZ : Nat} (t q : List UInt8) (n : Nat) (hn : t.length % 64 + n < 64) (hq : n ≤ q.length) (bl : List UInt8) (hbl : bl.length = 64) (hb' : bl.take (t.length % 64) = t.drop (t.length / 64 * 64))
    (hH : HashAt w A hb sb cap (bl.take (t.length % 64) ++ q.take n ++ bl.drop (t.length % 64 + n)) (t.length % 64 + n) SZ) (hS : StAt w sb (blocksA A t (t.length / 64))) (hne : sb ≠ hb) : ToldZ w A hb sb cap (t ++ q.take n) SZ := by
  obtain ⟨h1, h2, h3⟩ := told_part t q n hn hq bl hbl hb'
  refine ⟨⟨_, by rw [h1]; exact hH, by rw [h1]; exact h3⟩, ?_, hne⟩
  rw [h2, blocksA_append _ _ _ _ (by omega)]
  exact hS
theorem sub_all (l : List UInt8) (n : Nat) : sub l n l.length = l.drop n := by simp [sub]
theorem told_none (t : List UInt8) (h : t.length % 64 = 0) : t.drop (t.length / 64 * 64) = [] := by
  rw [List.drop_of_length_le (by omega)]

/-- copy onto part of a block, out of a text. -/
theorem wpList_copy_str {P : Program} {ops : Array Oper} {rest : List Oper} {o : Oper} {a : Act} {w : World} {R : Exit → Act → World → Prop} (hgd : o.guard = none) (d x : Operand) (dT sT elem : TypeId)
    (hop : o.op = .call { callee := .builtin .copy, args := #[d, x], argTypes := #[dT, sT] }) (hu : P.underlying dT = some (.slice elem)) (hs : (P.info? elem).map (·.size) = some 1)
    (g off dLen dCap : Nat) (hd : a.eval d = .slice (some ⟨g, off, none⟩) dLen dCap) (s : List UInt8) (hx : a.eval x = .string ⟨s.toArray⟩) (cur : Array Value) (t : TypeId) (hg : w.heap[g]? = some (.cells cur t (0, 0)))
    (p : List UInt8) (hp : s.take dLen = p) (hfit : off + p.length ≤ cur.size)
    (h : wpList P ops R rest (a.put o.dst (goInt p.length)) (w.setRow g (cur.toList.take off ++ Lib.byteCells p ++ cur.toList.drop (off + p.length)).toArray)) : wpList P ops R (o :: rest) a w := by
  have hrun : (Builtin.copy_ #[dT, sT] o.type #[.slice (some ⟨g, off, none⟩) dLen dCap, .string ⟨s.toArray⟩]).run P w = .ok (goInt p.length) (w.setRow g (cur.toList.take off ++ Lib.byteCells p ++ cur.toList.drop (off + p.length)).toArray) := by
    have hst := run_storeCells_at P g off t (Lib.byteCells p) 0 cur w hg (by rw [Lib.byteCells_length]; simpa using hfit) (Lib.byteCells_one _)
    rw [Lib.byteCells_length] at hst
    simp only [Nat.add_zero] at hst
    have hsz : (ByteArray.mk s.toArray).size = s.length := rfl
    have hmin : Nat.min s.length dLen = p.length := by rw [← hp, List.length_take]; exact Nat.min_comm _ _
    have htk : List.take p.length (List.map (fun b : UInt8 => Value.int IntKind.u8 (b.toNat : Int)) s) = Lib.byteCells p := by
      rw [← hp, List.length_take, ← List.map_take]
      unfold Lib.byteCells
      congr 1
      rcases Nat.le_total dLen s.length with h | h
      · rw [Nat.min_eq_left h]
      · rw [Nat.min_eq_right h, List.take_length, List.take_of_length_le h]
    cases hq : P.info? elem with
    | none => simp [hq] at hs
    | some i =>
      simp [Builtin.copy_, run_underlying hu, Builtin.lenOf, Builtin.firstCells, sizeOf, typeInfo, hq, hsz, hmin]
      rw [htk, hst]
      simp [Result.andThen]
  refine wpList_plain hgd fun K hK => ?_
  have hfin := hK _ _ h
  generalize w.setRow g (cur.toList.take off ++ Lib.byteCells p ++ cur.toList.drop (off + p.length)).toArray = W at *
  unfold Oper.wp
  simp [execOp, hop, resolve, invoke, builtin, hd, hx, hrun, Result.andThen]
  exact hfin
end Go.Proofs.YtbhgekhcpagkoaaDoor
