/- Texts of this proof, laid into one: PaO, PaS. -/
import Derived.Test.YtbhgekhcpagkoaaDoorMh11
/- The reference's Complete. -/
set_option linter.unusedVariables false
set_option linter.unusedSimpArgs false
namespace Go.Proofs.YtbhgekhcpagkoaaDoor
open Go Go.RowKit
theorem rise_pair {ps : List PartD} (h : riseB ps = true) : ps.Pairwise fun a b => a.num < b.num := by
  rw [List.pairwise_iff_getElem]
  have : ∀ d i (hi : i + d + 1 < ps.length), (gP ps i).num < (gP ps (i + d + 1)).num := by
    intro d
    induction d with
    | zero => intro i hi; exact riseB_spec h i hi
    | succ d ih =>
      intro i hi
      have h1 := ih i (by omega)
      have h2 := riseB_spec h (i + d + 1) (by omega)
      rw [show i + (d + 1) + 1 = i + d + 1 + 1 by omega]
      omega
  intro i j hi hj hij
  have := this (j - i - 1) i (by omega)
  rw [show i + (j - i - 1) + 1 = j by omega, gP_eq ps i hi, gP_eq ps j hj] at this
  exact this
theorem filter_find (p : PartD) (ps : List PartD) (h : ps.Pairwise fun a b => a.num < b.num) : ps.filter (sameP p) = (findP ps p).toList := by
  unfold findP
  induction ps with
  | nil => rfl
  | cons a r ih =>
    rw [List.pairwise_cons] at h
    cases hs : sameP p a with
    | false => rw [List.filter_cons_of_neg (by simp [hs]), List.find?_cons_of_neg (by simp [hs]), ih h.2]
    | true =>
      rw [List.filter_cons_of_pos hs, List.find?_cons_of_pos hs]
      have : r.filter (sameP p) = [] := by
        rw [List.filter_eq_nil_iff]
        intro b hb hs2
        have h1 := h.1 b hb
        unfold sameP at hs hs2
        simp only [Bool.and_eq_true, beq_iff_eq] at hs hs2
        omega
      rw [this]; rfl
theorem filS_yes {ps : List PartD} {p : PartD} {k : Nat} (hk : k < ps.length) (h : sameP p (gP ps k) = true) : (ps.take (k + 1)).filter (sameP p) = (ps.take k).filter (sameP p) ++ [gP ps k] := by
  rw [take_gP ps k hk, List.filter_append]; simp [h]
theorem filS_no {ps : List PartD} {p : PartD} {k : Nat} (hk : k < ps.length) (h : sameP p (gP ps k) = false) : (ps.take (k + 1)).filter (sameP p) = (ps.take k).filter (sameP p) := by
  rw [take_gP ps k hk, List.filter_append]; simp [h]
theorem filS_len (ps : List PartD) (p : PartD) (k : Nat) : ((ps.take k).filter (sameP p)).length ≤ k := by
  have := List.length_filter_le (sameP p) (ps.take k)
  rw [List.length_take] at this; omega
set_option maxRecDepth 100000 in
set_option maxHeartbeats 8000000 in
theorem RComplete_any (u : UpD) (A B : Option Addr) (n cap m cap2 : Nat) (ps l : List PartD) (now : Int) (w : World) (h : PartsAt w A n ps) (hl : PartsAt w B m l) (hok : OkP ps) (hn : n ≤ 9223372036854775807) (hm : m ≤ 9223372036854775807) :
    Calls Tryd.prog 17 #[upV u (.slice A n cap), .slice B m cap2, .int .i64 now] w (CompPost u.type ps l now w) := by
  have hright := Lib.hid (fun w h => Right_any A n cap ps w h hok hn)
  have hml := Lib.hid hl.1
  have hnl := Lib.hid h.1
  obtain ⟨seq, bucket, key, type, owner, time⟩ := u
  unfold upV upL
  simp only
  go_enter Tryd.func17, Tryd.ntmps17
  go_wp2_with fail
  refine (hright.out _ (h.q (((Q.refl w).alloc _).alloc _))).mono ?_
  rintro e w1 ⟨rfl, hq⟩
  have hB := CompB.start w ⟨seq, bucket, key, type, owner, time⟩ (.slice A n cap) w1 hq
  obtain ⟨N0, hN⟩ : ∃ N0, N0 = w.heap.size := ⟨_, rfl⟩
  rw [← hN] at hB ⊢
  clear hq hright hN
  have HH := Lib.hid h
  have HL := Lib.hid hl
  clear h hl
  cases hr : rightB ps with
  | false =>
    have HE : Hid (compE ps l = 1) := (by unfold compE; rw [hr]; rfl : compE ps l = 1)
    go_wp2_with (refine wpList_store_row rfl 37 _ _ rfl (N0 + 1) (verL zV (.slice none 0 0)).toArray (by rfl) (by rfl) 37 _ (hB).br infoV rfl (verL_one _ _ rfl) ?_)
    have hput := (hB).put zV (.slice none 0 0)
    exact bodyPost_ret (results_ver rfl (by rfl) hput.1) rfl ⟨.inr ⟨by rw [(HE).out]; decide, by rw [(HE).out]; rfl⟩, hput.2⟩
  | true =>
    by_cases hm1 : m < 1
    · have g1 : decide ((m : Int) < 1) = true := by simp; omega
      have HE : Hid (compE ps l = 89) := (by unfold compE; rw [hr, if_neg (by simp), if_pos (.inl (by rw [← hml.out]; exact hm1))] : compE ps l = 89)
      clear hm1
      go_wp2_with (refine wpList_store_row rfl 37 _ _ rfl (N0 + 1) (verL zV (.slice none 0 0)).toArray (by rfl) (by rfl) 37 _ (hB).br infoV rfl (verL_one _ _ rfl) ?_)
      have hput := (hB).put zV (.slice none 0 0)
      exact bodyPost_ret (results_ver rfl (by rfl) hput.1) rfl ⟨.inr ⟨by rw [(HE).out]; decide, by rw [(HE).out]; rfl⟩, hput.2⟩
    · by_cases hm20 : 20 < m
      · have g1 : decide ((m : Int) < 1) = false := by simp; omega
        have g2 : decide ((20 : Int) < (m : Int)) = true := by simp; omega
        have HE : Hid (compE ps l = 89) := (by unfold compE; rw [hr, if_neg (by simp), if_pos (.inr (by rw [← hml.out]; exact hm20))] : compE ps l = 89)
        clear hm1 hm20
        go_wp2_with (refine wpList_store_row rfl 37 _ _ rfl (N0 + 1) (verL zV (.slice none 0 0)).toArray (by rfl) (by rfl) 37 _ (hB).br infoV rfl (verL_one _ _ rfl) ?_)
        have hput := (hB).put zV (.slice none 0 0)
        exact bodyPost_ret (results_ver rfl (by rfl) hput.1) rfl ⟨.inr ⟨by rw [(HE).out]; decide, by rw [(HE).out]; rfl⟩, hput.2⟩
      · have g1 : decide ((m : Int) < 1) = false := by simp; omega
        have g2 : decide ((20 : Int) < (m : Int)) = false := by simp; omega
        have hmm : ¬ (l.length < 1 ∨ 20 < l.length) := by rw [← hml.out]; omega
        have HMM := Lib.hid hmm
        have HR := Lib.hid hr
        have hn20 : n ≤ 20 := by rw [hnl.out]; exact right_len hr
        have hm20' : m ≤ 20 := by omega
        have hm1' : 1 ≤ m := by omega
        clear hmm hm1 hm20
        go_wp2_with fail
        go_loopw [9] (fun i wr => ∃ k : Nat, 1 ≤ k ∧ k ≤ m + 1 ∧ i = .int .i64 (k : Int) ∧ Hid (∀ j, j + 1 < k → (gP l j).num < (gP l (j + 1)).num) ∧ Hid (Q w1 wr)) (fun i _ => m + 1 - (intOf i).toNat)
        case atStart => exact ⟨1, by omega, by omega, rfl, fun j hj => by omega, Q.refl _⟩
        case round =>
          obtain ⟨k, hk1, hk, rfl, hrr, HQ⟩ := hrel
          have hB1 := hB
          have hB := hB1.go HQ.out
          by_cases hlt : k < m
          · obtain ⟨g, off, rfl, c0, _⟩ := (HL.out.q hB.q).at hlt
            obtain ⟨g', off', hA, c0', _⟩ := (HL.out.q hB.q).at (show k - 1 < m by omega)
            obtain ⟨rfl, rfl⟩ : g' = g ∧ off' = off := by cases hA; exact ⟨rfl, rfl⟩
            have g1 : decide ((k : Int) < (m : Int)) = true := by simp; omega
            have ck : ∀ m : QW wr, m.val.cell? ⟨g', off' + k * 5, none⟩ = some (.int .i64 (gP l k).num) := fun m => m.cell c0
            have ck' : ∀ m : QW wr, m.val.cell? ⟨g', off' + (k - 1) * 5, none⟩ = some (.int .i64 (gP l (k - 1)).num) := fun m => m.cell c0'
            have hk1' : (0 : Int) ≤ (k : Int) - 1 := by omega
            have hk2' : (k : Int) - 1 < (m : Int) := by omega
            have hkt : ((k : Int) - 1).toNat = k - 1 := by omega
            have hmb : (m : Int) ≤ 20 := by omega
            clear c0 c0' hA
            by_cases hv : (gP l k).num ≤ (gP l (k - 1)).num
            · have g3 : decide ((gP l k).num ≤ (gP l (k - 1)).num) = true := by simpa using hv
              have HE : Hid (compE ps l = 87) := (by unfold compE; rw [HR.out, if_neg (by simp), if_neg HMM.out, riseB_false (ps := l) (k - 1) (by rw [← hml.out]; omega) (by rw [show k - 1 + 1 = k by omega]; omega)]; rfl : compE ps l = 87)
              clear hv
              go_wp2_with fail
              refine wp_region_q (by kernel_rfl) (by kernel_rfl) ?_
              (repeat (go_big_quiet_step (fail)))
              refine wpQuiet_nil ?_
              rintro wa ⟨ma, hma⟩
              have hqa : Q wr wa := by rw [hma]; exact ma.le
              have hB := hB.go hqa
              clear hma ma hqa
              go_wp2_with (refine wpList_store_row rfl 37 _ _ rfl (N0 + 1) (verL zV (.slice none 0 0)).toArray (by rfl) (by rfl) 37 _ (hB).br infoV rfl (verL_one _ _ rfl) ?_)
              have hput := (hB).put zV (.slice none 0 0)
              exact bodyPost_ret (results_ver rfl (by rfl) hput.1) rfl ⟨.inr ⟨by rw [(HE).out]; decide, by rw [(HE).out]; rfl⟩, hput.2⟩
            · have g3 : decide ((gP l k).num ≤ (gP l (k - 1)).num) = false := by simpa using hv
              have HV := Lib.hid hv
              clear hv
              go_wp2_with fail
              refine wp_region_q (by kernel_rfl) (by kernel_rfl) ?_
              (repeat (go_big_quiet_step (fail)))
              refine wpQuiet_nil ?_
              rintro wa ⟨ma, hma⟩
              have hqa : Q wr wa := by rw [hma]; exact ma.le
              go_wp2_with fail
              go_roundw
              case rel =>
                refine ⟨k + 1, by omega, by omega, by go_num, ?_, HQ.out.trans ma.le⟩
                intro j hj
                by_cases e : j + 1 < k
                · exact hrr.out j e
                · obtain rfl : j = k - 1 := by omega
                  rw [show k - 1 + 1 = k by omega]
                  have := HV.out
                  omega
              case measure => simp [intOf]; omega
          · have g1 : decide ((k : Int) < (m : Int)) = false := by simp; omega
            have HS := Lib.hid (riseB_true (ps := l) (fun j hj => hrr.out j (by have := hml.out; omega)))
            rename World => w2
            have hB2 := hB
            clear hB hB1 hrr
            go_wp2_with fail
            go_loopw [10, 11] (fun v i wr => ∃ k : Nat, k ≤ m ∧ i = .int .i64 (k : Int) ∧ Hid (OwnP w2 wr v (pickL ps (l.take k))) ∧ Hid ((pickL ps (l.take k)).length = k) ∧ Hid (∀ j, j < k → (findP ps (gP l j)).isSome = true) ∧ Hid (Q w2 wr)) (fun _ i _ => m - (intOf i).toNat)
            case atStart => exact ⟨0, by omega, rfl, by rw [List.take_zero]; exact OwnP.nil _ _, rfl, fun j hj => by omega, Q.refl _⟩
            case round =>
              rename Nat => k0
              obtain ⟨k, hk, rfl, HO, HL8, HSM, HQ2⟩ := hrel
              have hB := hB2.go HQ2.out
              rename World => wk
              by_cases hlt2 : k < m
              · have hkl : k < l.length := by rw [← hml.out]; exact hlt2
                have g1 : decide (k < m) = true := by simpa using hlt2
                go_wp2_with fail
                go_loopw [10, 12, 13] (fun v f i wr => ∃ q : Nat, q ≤ n ∧ i = .int .i64 (q : Int) ∧ f = .bool (!((ps.take q).filter (sameP (gP l k))).isEmpty) ∧ Hid (OwnP w2 wr v (pickL ps (l.take k) ++ (ps.take q).filter (sameP (gP l k)))) ∧ Hid (Q w2 wr)) (fun _ _ i _ => n - (intOf i).toNat)
                case atStart => exact ⟨0, by omega, rfl, rfl, by rw [List.take_zero, List.filter_nil, List.append_nil]; exact HO.out, HQ2.out⟩
                case round =>
                  obtain ⟨q, hq, rfl, rfl, HO, HQ⟩ := hrel
                  have hBq := hB2.go HQ.out
                  have cu := hBq.bu.c6
                  by_cases hlt3 : q < n
                  · have hql : q < ps.length := by rw [← hnl.out]; exact hlt3
                    have g3 : decide (q < n) = true := by simpa using hlt3
                    obtain ⟨g, off, rfl, c0, _, _, c3, _⟩ := (HL.out.q hBq.q).at hlt2
                    obtain ⟨g', off', rfl, d0, d1, d2, d3, d4⟩ := (HH.out.q hBq.q).at hlt3
                    have kc0 : ∀ m : QW wr, m.val.cell? ⟨g, off + k * 5, none⟩ = some (.int .i64 (gP l k).num) := fun m => m.cell c0
                    have kc3 : ∀ m : QW wr, m.val.cell? ⟨g, off + k * 5 + 3, none⟩ = some (.string ⟨(gP l k).tag.toArray⟩) := fun m => m.cell c3
                    have kd0 : ∀ m : QW wr, m.val.cell? ⟨g', off' + q * 5, none⟩ = some (.int .i64 (gP ps q).num) := fun m => m.cell d0
                    have kd3 : ∀ m : QW wr, m.val.cell? ⟨g', off' + q * 5 + 3, none⟩ = some (.string ⟨(gP ps q).tag.toArray⟩) := fun m => m.cell d3
                    have kcu : ∀ m : QW wr, m.val.cell? ⟨N0, 6, none⟩ = some (.slice (some ⟨g', off', none⟩) n cap) := fun m => m.cell cu
                    by_cases hnum : (gP ps q).num = (gP l k).num
                    · have h1 : ((gP ps q).num == (gP l k).num) = true := by simpa using hnum
                      by_cases htag : (gP ps q).tag = (gP l k).tag
                      · have h2 : ((gP ps q).tag == (gP l k).tag) = true := by simpa using htag
                        have HY := Lib.hid (filS_yes (p := gP l k) hql (by unfold sameP; rw [h1, h2]; rfl))
                        have HFL := Lib.hid (filS_len ps (gP l k) q)
                        clear hnum htag
                        go_wp2_with fail
                        refine wp_region_q (by kernel_rfl) (by kernel_rfl) ?_
                        (repeat (go_big_quiet_step (fail)))
                        refine wpQuiet_nil ?_
                        rintro wa ⟨ma, hma⟩
                        have hqa : Q wr wa := by rw [hma]; exact ma.le
                        have HOa := Lib.hid (HO.out.q hqa)
                        have HQa := Lib.hid (HQ.out.trans hqa)
                        have f0 := hqa.cell d0
                        have f1 := hqa.cell d1
                        have f2 := hqa.cell d2
                        have f3 := hqa.cell d3
                        have f4 := hqa.cell d4
                        have fu := hqa.cell cu
                        clear hma ma hqa c0 c3 d0 d1 d2 d3 d4 cu kc0 kc3 kd0 kd3 kcu
                        go_wp2_with (at_builtin; refine wpList_append_p rfl (.tmp 89) (.tmp 95) rfl w2 wa _ (pickL ps (l.take k) ++ (ps.take q).filter (sameP (gP l k))) (gP ps q) (by rfl) HOa.out (by rfl) HQa.out (by rw [List.length_append, HL8.out]; have := HFL.out; omega) ?_; intro v5 w5 ho5 hq5 _; have HO5 := Lib.hid ho5; have HQ5 := Lib.hid hq5; clear ho5 hq5)
                        go_roundw
                        case rel => exact ⟨q + 1, hlt3, by go_num, by rw [HY.out]; simp, by rw [HY.out, ← List.append_assoc]; exact HO5.out, HQ5.out⟩
                        case measure => simp [intOf]; omega
                      · have h2 : ((gP ps q).tag == (gP l k).tag) = false := by simpa using htag
                        have HY := Lib.hid (filS_no (p := gP l k) hql (by unfold sameP; rw [h1, h2]; rfl))
                        clear hnum htag c0 c3 d0 d1 d2 d3 d4
                        go_wp2_with fail
                        refine wp_region_q (by kernel_rfl) (by kernel_rfl) ?_
                        (repeat (go_big_quiet_step (fail)))
                        refine wpQuiet_nil ?_
                        rintro wa ⟨ma, hma⟩
                        have hqa : Q wr wa := by rw [hma]; exact ma.le
                        go_wp2_with fail
                        go_roundw
                        case rel => exact ⟨q + 1, hlt3, by go_num, by rw [HY.out], by rw [HY.out]; exact HO.out.q ma.le, HQ.out.trans ma.le⟩
                        case measure => simp [intOf]; omega
                    · have h1 : ((gP ps q).num == (gP l k).num) = false := by simpa using hnum
                      have HY := Lib.hid (filS_no (p := gP l k) hql (by unfold sameP; rw [h1]; rfl))
                      clear hnum c0 c3 d0 d1 d2 d3 d4
                      go_wp2_with fail
                      refine wp_region_q (by kernel_rfl) (by kernel_rfl) ?_
                      (repeat (go_big_quiet_step (fail)))
                      refine wpQuiet_nil ?_
                      rintro wa ⟨ma, hma⟩
                      have hqa : Q wr wa := by rw [hma]; exact ma.le
                      go_wp2_with fail
                      go_roundw
                      case rel => exact ⟨q + 1, hlt3, by go_num, by rw [HY.out], by rw [HY.out]; exact HO.out.q ma.le, HQ.out.trans ma.le⟩
                      case measure => simp [intOf]; omega
                  · have HQN : Hid (q = n) := (show q = n by omega)
                    have g3 : decide (q < n) = false := by simpa using hlt3
                    have e1 : (ps.take q).filter (sameP (gP l k)) = (findP ps (gP l k)).toList := by
                      rw [List.take_of_length_le (by have := HQN.out; have := hnl.out; omega)]
                      have := HR.out
                      unfold rightB at this
                      simp only [Bool.and_eq_true] at this
                      exact filter_find _ _ (rise_pair this.1)
                    rw [e1] at HO
                    clear hlt3
                    cases hf : findP ps (gP l k) with
                    | none =>
                      have HE : Hid (compE ps l = 86) := (by unfold compE; rw [HR.out, if_neg (by simp), if_neg HMM.out, HS.out, if_neg (by simp), has_no hkl hf]; rfl : compE ps l = 86)
                      have e2 : ((ps.take q).filter (sameP (gP l k))).isEmpty = true := by rw [e1, hf]; rfl
                      rw [e2]
                      clear e1 e2
                      go_wp2_with (refine wpList_store_row rfl 37 _ _ rfl (N0 + 1) (verL zV (.slice none 0 0)).toArray (by rfl) (by rfl) 37 _ (hBq).br infoV rfl (verL_one _ _ rfl) ?_)
                      have hput := (hBq).put zV (.slice none 0 0)
                      exact bodyPost_ret (results_ver rfl (by rfl) hput.1) rfl ⟨.inr ⟨by rw [(HE).out]; decide, by rw [(HE).out]; rfl⟩, hput.2⟩
                    | some r =>
                      have e2 : ((ps.take q).filter (sameP (gP l k))).isEmpty = false := by rw [e1, hf]; rfl
                      rw [e2]
                      have HPS := Lib.hid (pick_succ (ps := ps) hkl hf)
                      have HLS : Hid (((pickL ps (l.take (k + 1))).length) = k + 1) := (by rw [HPS.out, List.length_append, HL8.out]; rfl : ((pickL ps (l.take (k + 1))).length) = k + 1)
                      have HO2 : Hid (OwnP w2 wr _ (pickL ps (l.take (k + 1)))) := (by rw [HPS.out]; have := HO.out; rw [hf] at this; exact this : OwnP w2 wr _ (pickL ps (l.take (k + 1))))
                      have HFS : Hid ((findP ps (gP l k)).isSome = true) := (by rw [hf]; rfl : (findP ps (gP l k)).isSome = true)
                      clear e1 e2 HO
                      go_wp2_with fail
                      go_roundw
                      case rel =>
                        refine ⟨k + 1, hlt2, by go_num, HO2.out, HLS, fun j hj => ?_, HQ.out⟩
                        by_cases e : j = k
                        · subst e; exact HFS.out
                        · exact HSM.out j (by omega)
                      case measure => simp [intOf]; omega
              · rename World => wa
                have HKN : Hid (k = m) := (show k = m by omega)
                have g1 : decide (k < m) = false := by simpa using hlt2
                have e1 : l.take k = l := List.take_of_length_le (by have := HKN.out; have := hml.out; omega)
                rw [e1] at HO HL8
                have HSY := Lib.hid (has_yes (ps := ps) (l := l) (fun j hj => HSM.out j (by have := HKN.out; have := hml.out; omega)))
                obtain ⟨of, hof⟩ : ∃ of, of = pickL ps l := ⟨_, rfl⟩
                have HOF := Lib.hid hof
                rw [← hof] at HO HL8
                have hom : of.length = m := by rw [HL8.out]; exact HKN.out
                have hall : ∀ p ∈ of, 0 ≤ p.size ∧ p.size ≤ 8000 := fun p hp => by
                  have := may_size (right_mem HR.out (pick_mem (by rw [← hof]; exact hp)))
                  exact ⟨this.1, this.2.1⟩
                have HALL := Lib.hid hall
                have HET := Lib.hid (etag_of (ps := ps) (l := l) HR.out (by rw [← hof]; omega))
                have hoko : OkP of := fun p hp => hok p (pick_mem (by rw [← hof]; exact hp))
                obtain ⟨A8, c8, hv8, hl8, hc8, hP8, hown8⟩ := HO.out.parts
                subst hv8
                rw [hom] at hP8 hl8 ⊢
                have HP8 := Lib.hid hP8
                have HOM := Lib.hid hom
                have HOK := Lib.hid hoko
                have ct : wa.cell? ⟨N0, 3, none⟩ = some (.string ⟨type.toArray⟩) := by rw [cell_of_row _ _ _ _ _ _ hB.bu]; rfl
                obtain ⟨b12, hb12⟩ : ∃ b, b = wa.heap.size := ⟨_, rfl⟩
                have hBV : BoxV (wa.alloc (.cells (verL ⟨0, false, false, [], type, 0, now⟩ (.slice none 0 0)).toArray 37)) b12 ⟨0, false, false, [], type, 0, now⟩ (.slice none 0 0) := by rw [hb12]; exact BoxV.new _ _ _
                have hq12 : Q wa (wa.alloc (.cells (verL ⟨0, false, false, [], type, 0, now⟩ (.slice none 0 0)).toArray 37)) := (Q.refl wa).alloc _
                clear hP8 hown8 hall HO HL8 hof hom hoko e1
                go_upto_region 25 with (fail)
                obtain ⟨W12, hW12⟩ : ∃ Wb, wa.alloc (.cells #[.int .i64 0, .bool false, .bool false, .string ⟨#[]⟩, .string ⟨type.toArray⟩, .int .i64 0, .int .i64 now, .slice none 0 0] 37) = Wb := ⟨_, rfl⟩
                have hW12b : wa.alloc (.cells (verL ⟨0, false, false, [], type, 0, now⟩ (.slice none 0 0)).toArray 37) = W12 := hW12
                rw [hW12]
                rw [hW12b] at hBV hq12
                try rw [← hb12]
                have HB12 := Lib.hid hb12
                clear hW12 hW12b ct hb12
                go_wp2_with fail
                go_loopw [15] (fun i wr => ∃ j : Nat, j ≤ m ∧ i = .int .i64 (j : Int) ∧ ∃ vb, Hid (BoxV wr b12 ⟨0, false, false, [], type, sizeS (of.take j), now⟩ vb) ∧ Hid (OwnI wa wr vb ((of.take j).map (·.blob))) ∧ Hid (∀ q, vb.ownBlock = some q → q ≠ b12) ∧ Hid (∀ i, i < j → i + 1 < m → ¬ (gP of i).size < 16) ∧ Hid (Q wa wr)) (fun i _ => m - (intOf i).toNat)
                case atStart => exact ⟨0, by omega, rfl, .slice none 0 0, by rw [List.take_zero]; exact hBV, by rw [List.take_zero]; exact OwnI.nil _ _, fun q hq => (by cases hq), fun i hi => by omega, hq12⟩
                case round =>
                  clear hBV hq12
                  obtain ⟨j, hj, rfl, vb, HBV, HOI, HNE, HSM, HQ⟩ := hrel
                  have hBq := hB.go HQ.out
                  by_cases hlt3 : j < m
                  · have hjl : j < of.length := by rw [HOM.out]; exact hlt3
                    have g3 : decide (j < m) = true := by simpa using hlt3
                    obtain ⟨g, off, rfl, c0, d1, c2, c3, d4⟩ := (HP8.out.q HQ.out).at hlt3
                    clear c0 c2 c3
                    by_cases hs : (gP of j).size < 16 ∧ j + 1 < m
                    · have g4 : decide ((gP of j).size < 16) = true := by simpa using hs.1
                      have g5 : decide ((j : Int) < (m : Int) - 1) = true := by simp; omega
                      have HE : Hid (compE ps l = 88) := (by unfold compE; rw [HR.out, if_neg (by simp), if_neg HMM.out, HS.out, if_neg (by simp), HSY.out, if_neg (by simp), ← HOF.out, if_pos (small_yes (by rw [HOM.out]; exact hs.2) hs.1)] : compE ps l = 88)
                      clear hs
                      go_wp2_with (refine wpList_store_row rfl 37 _ _ rfl (N0 + 1) (verL zV (.slice none 0 0)).toArray (by rfl) (by rfl) 37 _ (hBq).br infoV rfl (verL_one _ _ rfl) ?_)
                      have hput := (hBq).put zV (.slice none 0 0)
                      exact bodyPost_ret (results_ver rfl (by rfl) hput.1) rfl ⟨.inr ⟨by rw [(HE).out]; decide, by rw [(HE).out]; rfl⟩, hput.2⟩
                    · have HSN := Lib.hid hs
                      obtain ⟨S, hS⟩ : ∃ S, S = sizeS (of.take j) := ⟨_, rfl⟩
                      have hsb := size_bound HALL.out j
                      have hsj : 0 ≤ (gP of j).size ∧ (gP of j).size ≤ 8000 := by rw [gP_eq of j hjl]; exact HALL.out _ (List.getElem_mem hjl)
                      rw [← hS] at HBV hsb
                      have HSS : Hid (sizeS (of.take (j + 1)) = S + (gP of j).size) := (by rw [hS]; exact size_succ hjl : sizeS (of.take (j + 1)) = S + (gP of j).size)
                      have HBS := Lib.hid (blob_succ hjl)
                      have hlb : ((of.take j).map (·.blob)).length = j := by rw [List.length_map, List.length_take]; omega
                      obtain ⟨hsb1, hsb2⟩ := hsb
                      obtain ⟨hsj1, hsj2⟩ := hsj
                      have hlow : -9223372036854775808 ≤ S + (gP of j).size ∧ S + (gP of j).size ≤ 9223372036854775807 := by omega
                      clear hS
                      by_cases hs1 : (gP of j).size < 16
                      · have g4 : decide ((gP of j).size < 16) = true := by simpa using hs1
                        have g5 : decide ((j : Int) < (m : Int) - 1) = false := by simp; omega
                        clear hs hs1
                        go_upto_region 30 with (fail)
                        have e5 : ∀ m : QW wr, m.val.cell? ⟨b12, 5, none⟩ = some (.int .i64 S) := fun m => m.cell HBV.out.c5
                        have kd1 : ∀ m : QW wr, m.val.cell? ⟨g, off + j * 5 + 1, none⟩ = some (.int .i64 (gP of j).size) := fun m => m.cell d1
                        refine wp_region_noPanic ?_
                        refine wp_fin [] [([0, 1, 2, 3, 4, 5, 6, 7, 8], [])] [9] (by kernel_rfl) (by kernel_rfl) (fun _ _ _ _ _ h => h) ?_
                        simp only [wpFin, wpListK, List.map_cons, List.map_nil, Array.getD_eq_getD_getElem?, List.getElem?_toArray, List.getElem?_cons_succ, List.getElem?_cons_zero, Option.getD_some]
                        refine wpQuiet_nil ?_
                        (repeat (go_big_quiet_step (fail)))
                        refine wpQuiet_nil ?_
                        obtain ⟨Wb, hWb⟩ : ∃ W, wr.drew = W := ⟨_, rfl⟩
                        have hqd : Q wr Wb := by rw [← hWb]; exact (Q.refl wr).drew
                        rw [hWb]
                        have HBb := Lib.hid (HBV.out.q hqd)
                        have HOb := Lib.hid (HOI.out.q hqd)
                        have HQb := Lib.hid (HQ.out.trans hqd)
                        have e5 := HBb.out.c5
                        have f5 := HBb.out.fz 5
                        have HBc : Hid (BoxV (Wb.setCell ⟨b12, 5, none⟩ (.int .i64 (S + (gP of j).size))) b12 ⟨0, false, false, [], type, S + (gP of j).size, now⟩ vb) := (HBb.out.set5 (S + (gP of j).size) : BoxV _ b12 ⟨0, false, false, [], type, S + (gP of j).size, now⟩ vb)
                        have HOc := Lib.hid (HOb.out.g (grownBy_setCell6 Wb b12 5 (.int .i64 (S + (gP of j).size))) (fun q hq e => HNE.out q hq (by cases e; rfl)))
                        have HQc := Lib.hid (HQb.out.setNew (p := ⟨b12, 5, none⟩) (by have := HB12.out; simp; omega) (.int .i64 (S + (gP of j).size)))
                        clear hWb hqd kd1 d1 d4
                        go_wp2_with fail
                        refine NoPanic.normal ?_
                        obtain ⟨Wc, hWc⟩ : ∃ W, Wb.setCell ⟨b12, 5, none⟩ (.int .i64 (S + (gP of j).size)) = W := ⟨_, rfl⟩
                        rw [hWc] at HBc HOc HQc ⊢
                        clear hWc e5 f5 HBb HOb HQb
                        have hBc := hB.go HQc.out
                        obtain ⟨_, _, hA6, _, _, _, _, d4⟩ := (HP8.out.q HQc.out).at hlt3
                        cases hA6
                        have e7 : ∀ m : QW Wc, m.val.cell? ⟨b12, 7, none⟩ = some vb := fun m => m.cell HBc.out.c7
                        have kd4 : ∀ m : QW Wc, m.val.cell? ⟨g, off + j * 5 + 4, none⟩ = some (.int .i64 (gP of j).blob) := fun m => m.cell d4
                        go_upto_region 31 with (fail)
                        refine wp_region_noPanic ?_
                        refine wp_fin [] [([0, 1, 2, 3, 4, 5, 6], [7])] [8, 9, 10] (by kernel_rfl) (by kernel_rfl) (fun _ _ _ _ _ h => h) ?_
                        simp only [wpFin, wpListK, List.map_cons, List.map_nil, Array.getD_eq_getD_getElem?, List.getElem?_toArray, List.getElem?_cons_succ, List.getElem?_cons_zero, Option.getD_some]
                        refine wpQuiet_nil ?_
                        (repeat (go_big_quiet_step (fail)))
                        refine wpQuiet_nil ?_
                        obtain ⟨Wd, hWd⟩ : ∃ W, Wc.drew = W := ⟨_, rfl⟩
                        have hqd : Q Wc Wd := by rw [← hWd]; exact (Q.refl Wc).drew
                        rw [hWd]
                        intro K hK
                        go_wp2_with fail
                        refine hK.out _ _ ⟨⟨_, hqd.alloc _⟩, rfl⟩ ?_
                        clear hK K
                        have HBd := Lib.hid (HBc.out.q hqd)
                        have HOd := Lib.hid (HOc.out.q hqd)
                        have HQd := Lib.hid (HQc.out.trans hqd)
                        have hb12d := HBd.out.lt
                        clear hWd hqd e7 kd4 d4
                        refine wpList_append_i rfl (.tmp 134) (.tmp 140) rfl wa Wd vb ((of.take j).map (·.blob)) (gP of j).blob (by rfl) HOd.out (by rfl) HQd.out (by rw [hlb]; omega) ?_
                        intro v5 w5 ho5 hq5 hg5
                        have HO5 := Lib.hid ho5
                        have HQ5 := Lib.hid hq5
                        have hB5 : BoxV w5 b12 _ vb := (hg5.1.block b12 hb12d (fun e => HNE.out b12 e.symm rfl)).trans HBd.out
                        have f7 := hB5.fz 7
                        have HN5 : Hid (∀ q, v5.ownBlock = some q → q ≠ b12) := (fun q hq => by
                          rcases hg5.2 with h | h
                          · exact HNE.out q (by rw [← h]; exact hq)
                          · have : q = Wd.heap.size + 1 := by rw [h] at hq; cases hq; rfl
                            omega : ∀ q, v5.ownBlock = some q → q ≠ b12)
                        have e75 := hB5.c7
                        have HB6 := Lib.hid (hB5.set7 v5)
                        have HO6 := Lib.hid (HO5.out.g (grownBy_setCell6 w5 b12 7 v5) (fun q hq e => HN5.out q hq (by cases e; rfl)))
                        have HQ6 := Lib.hid (HQ5.out.setNew (p := ⟨b12, 7, none⟩) (by have := HB12.out; simp; omega) v5)
                        obtain ⟨A5, n5, c5, rfl⟩ : ∃ A5 n5 c5, v5 = Value.slice A5 n5 c5 := by obtain ⟨A5, c5, hv, _⟩ := ho5.slice; exact ⟨A5, _, c5, hv⟩
                        clear hg5 hB5 ho5 hq5
                        go_wp2_with fail
                        refine NoPanic.normal ?_
                        go_wp2_with fail
                        go_roundw
                        case rel =>
                          refine ⟨j + 1, hlt3, by go_num, .slice A5 n5 c5, by rw [HSS.out]; exact HB6.out, by rw [HBS.out]; exact HO6.out, HN5.out, fun i hi hi2 => ?_, HQ6.out⟩
                          by_cases e : i = j
                          · subst e; have := HSN.out; omega
                          · have := HSM.out i (by omega) hi2; omega
                        case measure => simp [intOf]; omega
                      · have g4 : decide ((gP of j).size < 16) = false := by simpa using hs1
                        clear hs hs1
                        go_upto_region 30 with (fail)
                        have e5 : ∀ m : QW wr, m.val.cell? ⟨b12, 5, none⟩ = some (.int .i64 S) := fun m => m.cell HBV.out.c5
                        have kd1 : ∀ m : QW wr, m.val.cell? ⟨g, off + j * 5 + 1, none⟩ = some (.int .i64 (gP of j).size) := fun m => m.cell d1
                        refine wp_region_noPanic ?_
                        refine wp_fin [] [([0, 1, 2, 3, 4, 5, 6, 7, 8], [])] [9] (by kernel_rfl) (by kernel_rfl) (fun _ _ _ _ _ h => h) ?_
                        simp only [wpFin, wpListK, List.map_cons, List.map_nil, Array.getD_eq_getD_getElem?, List.getElem?_toArray, List.getElem?_cons_succ, List.getElem?_cons_zero, Option.getD_some]
                        refine wpQuiet_nil ?_
                        (repeat (go_big_quiet_step (fail)))
                        refine wpQuiet_nil ?_
                        obtain ⟨Wb, hWb⟩ : ∃ W, wr.drew = W := ⟨_, rfl⟩
                        have hqd : Q wr Wb := by rw [← hWb]; exact (Q.refl wr).drew
                        rw [hWb]
                        have HBb := Lib.hid (HBV.out.q hqd)
                        have HOb := Lib.hid (HOI.out.q hqd)
                        have HQb := Lib.hid (HQ.out.trans hqd)
                        have e5 := HBb.out.c5
                        have f5 := HBb.out.fz 5
                        have HBc : Hid (BoxV (Wb.setCell ⟨b12, 5, none⟩ (.int .i64 (S + (gP of j).size))) b12 ⟨0, false, false, [], type, S + (gP of j).size, now⟩ vb) := (HBb.out.set5 (S + (gP of j).size) : BoxV _ b12 ⟨0, false, false, [], type, S + (gP of j).size, now⟩ vb)
                        have HOc := Lib.hid (HOb.out.g (grownBy_setCell6 Wb b12 5 (.int .i64 (S + (gP of j).size))) (fun q hq e => HNE.out q hq (by cases e; rfl)))
                        have HQc := Lib.hid (HQb.out.setNew (p := ⟨b12, 5, none⟩) (by have := HB12.out; simp; omega) (.int .i64 (S + (gP of j).size)))
                        clear hWb hqd kd1 d1 d4
                        go_wp2_with fail
                        refine NoPanic.normal ?_
                        obtain ⟨Wc, hWc⟩ : ∃ W, Wb.setCell ⟨b12, 5, none⟩ (.int .i64 (S + (gP of j).size)) = W := ⟨_, rfl⟩
                        rw [hWc] at HBc HOc HQc ⊢
                        clear hWc e5 f5 HBb HOb HQb
                        have hBc := hB.go HQc.out
                        obtain ⟨_, _, hA6, _, _, _, _, d4⟩ := (HP8.out.q HQc.out).at hlt3
                        cases hA6
                        have e7 : ∀ m : QW Wc, m.val.cell? ⟨b12, 7, none⟩ = some vb := fun m => m.cell HBc.out.c7
                        have kd4 : ∀ m : QW Wc, m.val.cell? ⟨g, off + j * 5 + 4, none⟩ = some (.int .i64 (gP of j).blob) := fun m => m.cell d4
                        go_upto_region 31 with (fail)
                        refine wp_region_noPanic ?_
                        refine wp_fin [] [([0, 1, 2, 3, 4, 5, 6], [7])] [8, 9, 10] (by kernel_rfl) (by kernel_rfl) (fun _ _ _ _ _ h => h) ?_
                        simp only [wpFin, wpListK, List.map_cons, List.map_nil, Array.getD_eq_getD_getElem?, List.getElem?_toArray, List.getElem?_cons_succ, List.getElem?_cons_zero, Option.getD_some]
                        refine wpQuiet_nil ?_
                        (repeat (go_big_quiet_step (fail)))
                        refine wpQuiet_nil ?_
                        obtain ⟨Wd, hWd⟩ : ∃ W, Wc.drew = W := ⟨_, rfl⟩
                        have hqd : Q Wc Wd := by rw [← hWd]; exact (Q.refl Wc).drew
                        rw [hWd]
                        intro K hK
                        go_wp2_with fail
                        refine hK.out _ _ ⟨⟨_, hqd.alloc _⟩, rfl⟩ ?_
                        clear hK K
                        have HBd := Lib.hid (HBc.out.q hqd)
                        have HOd := Lib.hid (HOc.out.q hqd)
                        have HQd := Lib.hid (HQc.out.trans hqd)
                        have hb12d := HBd.out.lt
                        clear hWd hqd e7 kd4 d4
                        refine wpList_append_i rfl (.tmp 134) (.tmp 140) rfl wa Wd vb ((of.take j).map (·.blob)) (gP of j).blob (by rfl) HOd.out (by rfl) HQd.out (by rw [hlb]; omega) ?_
                        intro v5 w5 ho5 hq5 hg5
                        have HO5 := Lib.hid ho5
                        have HQ5 := Lib.hid hq5
                        have hB5 : BoxV w5 b12 _ vb := (hg5.1.block b12 hb12d (fun e => HNE.out b12 e.symm rfl)).trans HBd.out
                        have f7 := hB5.fz 7
                        have HN5 : Hid (∀ q, v5.ownBlock = some q → q ≠ b12) := (fun q hq => by
                          rcases hg5.2 with h | h
                          · exact HNE.out q (by rw [← h]; exact hq)
                          · have : q = Wd.heap.size + 1 := by rw [h] at hq; cases hq; rfl
                            omega : ∀ q, v5.ownBlock = some q → q ≠ b12)
                        have e75 := hB5.c7
                        have HB6 := Lib.hid (hB5.set7 v5)
                        have HO6 := Lib.hid (HO5.out.g (grownBy_setCell6 w5 b12 7 v5) (fun q hq e => HN5.out q hq (by cases e; rfl)))
                        have HQ6 := Lib.hid (HQ5.out.setNew (p := ⟨b12, 7, none⟩) (by have := HB12.out; simp; omega) v5)
                        obtain ⟨A5, n5, c5, rfl⟩ : ∃ A5 n5 c5, v5 = Value.slice A5 n5 c5 := by obtain ⟨A5, c5, hv, _⟩ := ho5.slice; exact ⟨A5, _, c5, hv⟩
                        clear hg5 hB5 ho5 hq5
                        go_wp2_with fail
                        refine NoPanic.normal ?_
                        go_wp2_with fail
                        go_roundw
                        case rel =>
                          refine ⟨j + 1, hlt3, by go_num, .slice A5 n5 c5, by rw [HSS.out]; exact HB6.out, by rw [HBS.out]; exact HO6.out, HN5.out, fun i hi hi2 => ?_, HQ6.out⟩
                          by_cases e : i = j
                          · subst e; have := HSN.out; omega
                          · have := HSM.out i (by omega) hi2; omega
                        case measure => simp [intOf]; omega
                  · have HJM : Hid (j = m) := (show j = m by omega)
                    have g3 : decide (j < m) = false := by simpa using hlt3
                    have e2 : of.take j = of := List.take_of_length_le (by have := HJM.out; have := HOM.out; omega)
                    rw [e2] at HBV HOI
                    have hwN : N0 + 1 < b12 := by rw [HB12.out]; exact hB.br.lt
                    have hsm : smallB of = false := small_no (fun i hi => by have := HSM.out i (by have := HJM.out; have := HOM.out; omega) (by have := HOM.out; omega); omega)
                    have HE : Hid (compE ps l = 0) := (by unfold compE; rw [HR.out, if_neg (by simp), if_neg HMM.out, HS.out, if_neg (by simp), HSY.out, if_neg (by simp), ← HOF.out, hsm]; rfl : compE ps l = 0)
                    have HT := Lib.hid (fun w h => RETag_any A8 m c8 of w h HOK.out (by omega))
                    clear hlt3 e2 hsm
                    go_wp2_with fail
                    refine (HT.out _ (HP8.out.q HQ.out)).mono ?_
                    clear HT
                    rintro e w6 ⟨h1 | h1, hq6⟩
                    · obtain ⟨_, rfl⟩ := h1
                      have HB6 := Lib.hid (HBV.out.q hq6)
                      have HO6 := Lib.hid (HOI.out.q hq6)
                      have HQ6 := Lib.hid (HQ.out.trans hq6)
                      have HR6 := Lib.hid (hBq.br.q hq6)
                      have f3 := HB6.out.fz 3
                      have e3 : w6.cell? ⟨b12, 3, none⟩ = some (.string ⟨#[]⟩) := by rw [cell_of_row _ _ _ _ _ _ HB6.out]; rfl
                      have HB7 := Lib.hid (HB6.out.set3 (etagL of))
                      have HO7 := Lib.hid (HO6.out.g (grownBy_setCell6 w6 b12 3 (.string ⟨(etagL of).toArray⟩)) (fun q hq e => HNE.out q hq (by cases e; rfl)))
                      have HQ7 := Lib.hid (HQ6.out.setNew (p := ⟨b12, 3, none⟩) (by have := HB12.out; simp; omega) (.string ⟨(etagL of).toArray⟩))
                      have HR7 : Hid (BoxV (w6.setCell ⟨b12, 3, none⟩ (.string ⟨(etagL of).toArray⟩)) (N0 + 1) zV (.slice none 0 0)) := (((grownBy_setCell6 w6 b12 3 (.string ⟨(etagL of).toArray⟩)).block _ HR6.out.lt (by simp; omega)).trans HR6.out : BoxV _ _ _ _)
                      clear hq6 HBV HOI HQ
                      go_upto_region 33 with (fail)
                      obtain ⟨w7, hw7⟩ : ∃ W, w6.setCell ⟨b12, 3, none⟩ (.string ⟨(etagL of).toArray⟩) = W := ⟨_, rfl⟩
                      rw [hw7] at HB7 HO7 HQ7 HR7 ⊢
                      clear hw7 f3 e3 HB6 HO6 HQ6 HR6
                      go_step
                      refine wpList_load_row rfl 37 (.tmp 14) rfl b12 (by rfl) 37 _ (0, 0) _ HB7.out Tryd.underlying37 rfl infoV ?_
                      simp only [Act.put, List.setIfInBounds_toArray, List.set_cons_succ, List.set_cons_zero]
                      refine wpList_store_row rfl 37 (.tmp 6) (.tmp 149) rfl (N0 + 1) (verL ⟨0, false, false, etagL of, type, sizeS of, now⟩ vb).toArray (by rfl) (by rfl) 37 _ HR7.out infoV rfl (verL_one _ _ HO7.out.one) ?_
                      have h1 : BoxV (w7.setRow (N0 + 1) (verL ⟨0, false, false, etagL of, type, sizeS of, now⟩ vb).toArray) (N0 + 1) ⟨0, false, false, etagL of, type, sizeS of, now⟩ vb := setRow_heap w7 _ _ _ _ _ HR7.out
                      have h2 : Q w (w7.setRow (N0 + 1) (verL ⟨0, false, false, etagL of, type, sizeS of, now⟩ vb).toArray) := (hB.q.trans HQ7.out).below (below_setRow (Below.refl _ _) (by have := hB.sz; omega) _)
                      have h3 : OwnI w (w7.setRow (N0 + 1) (verL ⟨0, false, false, etagL of, type, sizeS of, now⟩ vb).toArray) vb (of.map (·.blob)) :=
                        (OwnI.g HO7.out (row := some (N0 + 1)) (w' := w7.setRow (N0 + 1) (verL ⟨0, false, false, etagL of, type, sizeS of, now⟩ vb).toArray) ⟨rfl, rfl, rfl, by simp [World.setRow], fun b _ hb => setRow_other _ _ b _ (fun e => hb (by rw [e]))⟩ (fun b hb e => by have := (HO7.out.block hb).1; have := HB12.out; cases e; omega)).base hB.q.size
                      have HH1 := Lib.hid h1
                      have HH2 := Lib.hid (And.intro h2 h3)
                      clear h1 h2 h3
                      go_wp2_with fail
                      refine bodyPost_ret (results_ver rfl (by rfl) HH1.out) rfl ⟨.inl ⟨HE.out, vb, ?_, ?_⟩, HH2.out.1⟩
                      · rw [← HOF.out]; rfl
                      · rw [← HOF.out]; exact HH2.out.2
                    · exact absurd h1.1 (by rw [HOF.out, HET.out]; simp)
end Go.Proofs.YtbhgekhcpagkoaaDoor
/- PartsPages. -/
set_option linter.unusedVariables false
set_option linter.unusedSimpArgs false
namespace Go.Proofs.YtbhgekhcpagkoaaDoor
open Go Go.RowKit
/-- What the laws begin with: the upload, its copy, and the upload of the copy. -/
structure LawB (w0 : World) (N0 N2 G : Nat) (u : UpD) (A : Option Addr) (n cap : Nat) (ps : List PartD) (w : World) : Prop where
  bu : BoxU w N0 u (.slice A n cap)
  by' : BoxU w N2 u (.slice (some ⟨G, 0, none⟩) n (n + 1))
  p : PartsAt w A n ps
  x : PartsAt w (some ⟨G, 0, none⟩) (n + 1) (ps ++ [tailP])
  t : Tab w
  q : Q w0 w
theorem LawB.go {w0 w w' : World} {N0 N2 G : Nat} {u : UpD} {A : Option Addr} {n cap : Nat} {ps : List PartD} (h : LawB w0 N0 N2 G u A n cap ps w) (hq : Q w w') : LawB w0 N0 N2 G u A n cap ps w' := ⟨h.bu.q hq, h.by'.q hq, h.p.q hq, h.x.q hq, h.t.q hq, h.q.trans hq⟩
theorem LawB.y {w0 w : World} {N0 N2 G : Nat} {u : UpD} {A : Option Addr} {n cap : Nat} {ps : List PartD} (h : LawB w0 N0 N2 G u A n cap ps w) : PartsAt w (some ⟨G, 0, none⟩) n ps := by
  have := h.x.take n (by omega)
  have e : (ps ++ [tailP]).take n = ps := by rw [h.p.1]; simp
  rwa [e] at this
/-- What stands when the copy is handed on. -/
theorem LawB.make {w0 w2 w3 : World} {N0 N2 G : Nat} {u : UpD} {A : Option Addr} {n cap : Nat} {ps : List PartD} (hu : BoxU w2 N0 u (.slice A n cap)) (hp : PartsAt w2 A n ps) (ht : Tab w2) (h0 : Q w0 w2)
    (hq : Q w2 w3) (hx : OwnP w2 w3 (.slice (some ⟨G, 0, none⟩) (n + 1) (n + 1)) (ps ++ [tailP])) (hN : w3.heap.size = N2) :
    LawB w0 N0 N2 G u A n cap ps (((w3.alloc (.cells (upL zU (.slice none 0 0)).toArray 26)).setRow N2 (upL u (.slice A n cap)).toArray).setCell ⟨N2, 6, none⟩ (.slice (some ⟨G, 0, none⟩) n (n + 1))) := by
  have hb := BoxU.new w3 zU (.slice none 0 0)
  have hqa : Q w3 (w3.alloc (.cells (upL zU (.slice none 0 0)).toArray 26)) := (Q.refl _).alloc _
  rw [hN] at hb
  generalize w3.alloc (.cells (upL zU (.slice none 0 0)).toArray 26) = w4 at *
  have hb5 : BoxU (w4.setRow N2 (upL u (.slice A n cap)).toArray) N2 u (.slice A n cap) := setRow_heap w4 _ _ _ _ _ hb
  have hq5 : Q w3 (w4.setRow N2 (upL u (.slice A n cap)).toArray) := hqa.below (below_setRow (Below.refl _ _) (by omega) _)
  generalize w4.setRow N2 (upL u (.slice A n cap)).toArray = w5 at *
  have hb6 := hb5.set6 (.slice (some ⟨G, 0, none⟩) n (n + 1))
  have hq6 : Q w3 (w5.setCell ⟨N2, 6, none⟩ (.slice (some ⟨G, 0, none⟩) n (n + 1))) := hq5.setNew (p := ⟨N2, 6, none⟩) (by simp; omega) _
  generalize w5.setCell ⟨N2, 6, none⟩ (.slice (some ⟨G, 0, none⟩) n (n + 1)) = w6 at *
  obtain ⟨A8, c8, hv8, hl8, hc8, hP8, _⟩ := hx.parts
  have hA : A8 = some ⟨G, 0, none⟩ := by injection hv8 with e1 e2 e3; exact e1.symm
  subst hA
  have hPl : PartsAt w3 (some ⟨G, 0, none⟩) (n + 1) (ps ++ [tailP]) := by
    have e : (ps ++ [tailP]).length = n + 1 := by rw [List.length_append, ← hp.1]; rfl
    rwa [e] at hP8
  exact ⟨(hu.q hq).q hq6, hb6, (hp.q hq).q hq6, hPl.q hq6, (ht.q hq).q hq6, (h0.trans hq).trans hq6⟩
def p5 : PartD := ⟨-5, 0, 0, [], 0⟩
def lkP (p : PartD) (L : List PartD) (k : Nat) : List PartD := List.replicate k p ++ L.drop k
theorem lkP_len (p : PartD) (L : List PartD) (k : Nat) (hk : k ≤ L.length) : (lkP p L k).length = L.length := by unfold lkP; simp; omega
theorem lkP_at (p : PartD) (L : List PartD) (k : Nat) (hk : k < L.length) : gP (lkP p L k) k = gP L k := by
  rw [gP_eq _ k (by rw [lkP_len _ _ _ (by omega)]; exact hk), gP_eq _ k hk]
  unfold lkP
  rw [List.getElem_append_right (by simp)]
  simp
theorem lkP_set (p : PartD) (L : List PartD) (k : Nat) (hk : k < L.length) : (lkP p L k).set k p = lkP p L (k + 1) := by
  unfold lkP
  rw [List.set_append_right _ _ (by simp), List.length_replicate, Nat.sub_self, List.drop_eq_getElem_cons hk, List.set_cons_zero, List.replicate_succ', List.append_assoc]
  rfl
set_option maxRecDepth 100000 in
set_option maxHeartbeats 8000000 in
theorem PPages_any (u : UpD) (A : Option Addr) (n cap : Nat) (ps : List PartD) (x most : Int) (w : World) (h : PartsAt w A n ps) (ht : Tab w) (hn : n ≤ 2932031007402) :
    Calls Tryd.prog 7 #[upV u (.slice A n cap), .int .i64 x, .int .i64 most] w fun e w' => e = .returned (.bool true) ∧ Q w w' := by
  have hn48 : n * 48 ≤ 140737488355328 := by omega
  have hbu := BoxU.new w u (.slice A n cap)
  have hq1 : Q w (w.alloc (.cells (upL u (.slice A n cap)).toArray 26)) := (Q.refl _).alloc _
  obtain ⟨W1, hW1⟩ : ∃ W, w.alloc (.cells (upL u (.slice A n cap)).toArray 26) = W := ⟨_, rfl⟩
  obtain ⟨N0, hN0⟩ : ∃ N, w.heap.size = N := ⟨_, rfl⟩
  rw [hW1, hN0] at hbu
  rw [hW1] at hq1
  obtain ⟨seq, bucket, key, type, owner, time⟩ := u
  have hW1b : w.alloc (.cells #[.int .i64 seq, .string ⟨bucket.toArray⟩, .string ⟨key.toArray⟩, .string ⟨type.toArray⟩, .string ⟨owner.toArray⟩, .int .i64 time, .slice A n cap] 26) = W1 := hW1
  have HP := Lib.hid h
  have HT := Lib.hid ht
  clear h ht hW1
  unfold upV upL
  simp only
  go_enter Tryd.func7, Tryd.ntmps7
  go_wp2_with fail
  clear hW1b hN0
  refine (examples_any _ (HT.out.q hq1)).mono ?_
  rintro e w2 ⟨rfl, hq2⟩
  have hbu := hbu.q hq2
  have HQ2 := Lib.hid (hq1.trans hq2)
  have c6 := hbu.c6
  clear hq1 hq2
  go_wp2_with fail
  refine (copied_any A n cap ps _ (HP.out.q HQ2.out) hn).mono ?_
  rintro e w3 ⟨rfl, ho3, hq3⟩
  obtain ⟨G, hG⟩ : ∃ G, w2.heap.size = G := ⟨_, rfl⟩
  obtain ⟨N2, hN2⟩ : ∃ G, w3.heap.size = G := ⟨_, rfl⟩
  rw [hG] at ho3 ⊢
  have hL := LawB.make hbu (HP.out.q HQ2.out) (HT.out.q HQ2.out) HQ2.out hq3 ho3 hN2
  have hbu3 := hbu.q hq3
  have hbn := BoxU.new w3 zU (.slice none 0 0)
  have hqn : Q w3 (w3.alloc (.cells (upL zU (.slice none 0 0)).toArray 26)) := (Q.refl _).alloc _
  rw [hN2] at hbn
  obtain ⟨W4, hW4⟩ : ∃ W, w3.alloc (.cells (upL zU (.slice none 0 0)).toArray 26) = W := ⟨_, rfl⟩
  rw [hW4] at hL hbn hqn
  have hW4b : w3.alloc (.cells #[.int .i64 0, .string ⟨#[]⟩, .string ⟨#[]⟩, .string ⟨#[]⟩, .string ⟨#[]⟩, .int .i64 0, .slice none 0 0] 26) = W4 := hW4
  have hLL := Lib.hid hL
  clear hG ho3 c6 hL hq3 hW4
  go_upto_region 3 with (fail)
  go_step
  refine wpList_load_row rfl 26 (.tmp 3) rfl N0 (by rfl) 26 (upL ⟨seq, bucket, key, type, owner, time⟩ (.slice A n cap)).toArray (0, 0) _ hbu3 Tryd.underlying26 rfl infoU ?_
  simp only [Act.put, List.setIfInBounds_toArray, List.set_cons_succ, List.set_cons_zero]
  have hstd : BoxU (W4.setRow N2 (upL ⟨seq, bucket, key, type, owner, time⟩ (.slice A n cap)).toArray) N2 ⟨seq, bucket, key, type, owner, time⟩ (.slice A n cap) := setRow_heap W4 _ _ _ _ _ hbn
  have hq5 : Q w3 (W4.setRow N2 (upL ⟨seq, bucket, key, type, owner, time⟩ (.slice A n cap)).toArray) := hqn.below (below_setRow (Below.refl _ _) (by omega) _)
  have hf6 := hstd.fz 6
  have hc6 := hstd.c6
  have hbu5 := (hbu3.q hq5).c6
  go_upto_region 4 with (refine wpList_store_row rfl 26 _ _ rfl N2 (upL ⟨seq, bucket, key, type, owner, time⟩ (.slice A n cap)).toArray (by rfl) (by rfl) 26 _ hbn infoU rfl (upL_one _ _ rfl) ?_)
  clear hN2 hW4b hq5 hqn hbu3
  obtain ⟨W5, hW5⟩ : ∃ W, W4.setRow N2 (upL ⟨seq, bucket, key, type, owner, time⟩ (.slice A n cap)).toArray = W := ⟨_, rfl⟩
  rw [hW5] at hLL hf6 hc6 hbu5 ⊢
  have hnn : (n : Int) ≤ (n : Int) + 1 := by omega
  clear hstd hW5 hbn
  go_upto_region 5 with (fail)
  obtain ⟨W6, hW6⟩ : ∃ W, W5.setCell ⟨N2, 6, none⟩ (.slice (some ⟨G, 0, none⟩) n (n + 1)) = W := ⟨_, rfl⟩
  rw [hW6] at hLL ⊢
  clear hW6 hf6 hc6 hbu5
  go_step
  refine wpList_load_row rfl 26 (.tmp 9) rfl N2 (by rfl) 26 (upL ⟨seq, bucket, key, type, owner, time⟩ (.slice (some ⟨G, 0, none⟩) n (n + 1))).toArray (0, 0) _ hLL.out.by' Tryd.underlying26 rfl infoU ?_
  simp only [Act.put, List.setIfInBounds_toArray, List.set_cons_succ, List.set_cons_zero]
  have hPg : Calls Tryd.prog 20 #[.agg (upL ⟨seq, bucket, key, type, owner, time⟩ (.slice (some ⟨G, 0, none⟩) n (n + 1))).toArray, .int .i64 x, .int .i64 most] W6 _ := Page_any ⟨seq, bucket, key, type, owner, time⟩ (some ⟨G, 0, none⟩) n (n + 1) ps x most W6 hLL.out.y hn48
  have hRg := fun (w : World) (h : PartsAt w A n ps) => RPage_any ⟨seq, bucket, key, type, owner, time⟩ A n cap ps x most w h hn48
  have HRg := Lib.hid hRg
  clear hRg
  obtain ⟨L, hLdef⟩ : ∃ L, pageL ps x most = L := ⟨_, rfl⟩
  obtain ⟨mb, hmb⟩ : ∃ b, moreB ps x most = b := ⟨_, rfl⟩
  rw [hLdef, hmb] at hPg HRg
  clear hLdef hmb
  go_wp2_with fail
  refine hPg.mono ?_
  rintro e w7 ⟨⟨v7, rfl, ho7⟩, hq7⟩
  clear hPg
  have HL7 := Lib.hid (hLL.out.go hq7)
  have HO7 := Lib.hid ho7
  have HQ7 := Lib.hid hq7
  clear ho7 hq7
  go_upto_region 6 with (fail)
  go_step
  refine wpList_load_row rfl 26 (.tmp 3) rfl N0 (by rfl) 26 (upL ⟨seq, bucket, key, type, owner, time⟩ (.slice A n cap)).toArray (0, 0) _ HL7.out.bu Tryd.underlying26 rfl infoU ?_
  simp only [Act.put, List.setIfInBounds_toArray, List.set_cons_succ, List.set_cons_zero]
  have hRg : Calls Tryd.prog 21 #[.agg (upL ⟨seq, bucket, key, type, owner, time⟩ (.slice A n cap)).toArray, .int .i64 x, .int .i64 most] w7 _ := HRg.out w7 HL7.out.p
  clear HRg
  go_wp2_with fail
  refine hRg.mono ?_
  rintro e w8 ⟨⟨v8, rfl, ho8⟩, hq8⟩
  clear hRg
  have HSEP : Hid (∀ g, v7.ownBlock = some g → g < w7.heap.size) := (fun g hg => (HO7.out.block hg).2 : ∀ g, v7.ownBlock = some g → g < w7.heap.size)
  have HO7 := Lib.hid (HO7.out.q hq8)
  have HQ8 := Lib.hid (HQ7.out.trans hq8)
  have HO8 := Lib.hid ho8
  obtain ⟨A7, c7, hv7, hl7, hc7, hx7, hy7⟩ := HO7.out.parts
  obtain ⟨A8, c8, hv8, hl8, hc8, hx8, hy8⟩ := HO8.out.parts
  clear hx7 hy7 hx8 hy8
  subst hv7 hv8
  have hmb : L.length ≤ 9223372036854775807 := by omega
  obtain ⟨m, hm⟩ : ∃ m, m = L.length := ⟨_, rfl⟩
  rw [← hm] at HO7 HO8 HSEP hmb ⊢
  have HM := Lib.hid hm
  have HL8 := HL7
  clear HQ7 hq8 ho8 hl7 hl8 hm
  go_wp2_with fail
  go_loopw [14] (fun i wr => ∃ k : Nat, k ≤ m ∧ i = .int .i64 (k : Int) ∧ Hid (OwnP W6 wr (.slice A7 m c7) (lkP p5 L k)) ∧ Hid (OwnP w7 wr (.slice A8 m c8) L) ∧ Hid (Q W6 wr)) (fun i _ => m - (intOf i).toNat)
  case atStart => exact ⟨0, by omega, rfl, HO7.out, HO8.out, HQ8.out⟩
  case round =>
    clear HO7 HO8 HQ8
    obtain ⟨k, hk, rfl, HO7, HO8, HQ⟩ := hrel
    by_cases hlt : k < m
    · have g1 : decide (k < m) = true := by simpa using hlt
      have hkl : k < L.length := by rw [← HM.out]; exact hlt
      have hlen : (lkP p5 L k).length = m := by rw [lkP_len _ _ _ (by omega)]; exact HM.out.symm
      obtain ⟨A7', c7', hv7, hx7, hy7, hP7, hown7⟩ := HO7.out.parts
      obtain ⟨A8', c8', hv8, hx8, hy8, hP8, hown8⟩ := HO8.out.parts
      clear hx7 hy7 hx8 hy8
      obtain ⟨rfl, rfl⟩ : A7 = A7' ∧ c7 = c7' := by injection hv7 with e1 e2 e3; exact ⟨e1, e3⟩
      obtain ⟨rfl, rfl⟩ : A8 = A8' ∧ c8 = c8' := by injection hv8 with e1 e2 e3; exact ⟨e1, e3⟩
      obtain ⟨g7, off7, hA7, c0, c1, c2, c3, c4⟩ := hP7.at (j := k) (by rw [hlen]; exact hlt)
      obtain ⟨g8, off8, hA8, d0, d1, d2, d3, d4⟩ := hP8.at (j := k) hkl
      obtain ⟨ho7, hx7, hy7⟩ := hown7 _ _ hA7
      subst ho7
      obtain ⟨ho8, hx8, hy8⟩ := hown8 _ _ hA8
      subst ho8
      subst hA7 hA8
      rw [lkP_at _ _ _ hkl, Nat.zero_add] at c0 c1 c2 c3 c4
      rw [Nat.zero_add] at d0 d1 d2 d3 d4
      have kc0 : ∀ m : QW wr, m.val.cell? ⟨g7, k * 5, none⟩ = some (.int .i64 (gP L k).num) := fun m => m.cell c0
      have kc1 : ∀ m : QW wr, m.val.cell? ⟨g7, k * 5 + 1, none⟩ = some (.int .i64 (gP L k).size) := fun m => m.cell c1
      have kc2 : ∀ m : QW wr, m.val.cell? ⟨g7, k * 5 + 2, none⟩ = some (.int .i64 (gP L k).time) := fun m => m.cell c2
      have kc3 : ∀ m : QW wr, m.val.cell? ⟨g7, k * 5 + 3, none⟩ = some (.string ⟨(gP L k).tag.toArray⟩) := fun m => m.cell c3
      have kc4 : ∀ m : QW wr, m.val.cell? ⟨g7, k * 5 + 4, none⟩ = some (.int .i64 (gP L k).blob) := fun m => m.cell c4
      have kd0 : ∀ m : QW wr, m.val.cell? ⟨g8, k * 5, none⟩ = some (.int .i64 (gP L k).num) := fun m => m.cell d0
      have kd1 : ∀ m : QW wr, m.val.cell? ⟨g8, k * 5 + 1, none⟩ = some (.int .i64 (gP L k).size) := fun m => m.cell d1
      have kd2 : ∀ m : QW wr, m.val.cell? ⟨g8, k * 5 + 2, none⟩ = some (.int .i64 (gP L k).time) := fun m => m.cell d2
      have kd3 : ∀ m : QW wr, m.val.cell? ⟨g8, k * 5 + 3, none⟩ = some (.string ⟨(gP L k).tag.toArray⟩) := fun m => m.cell d3
      have kd4 : ∀ m : QW wr, m.val.cell? ⟨g8, k * 5 + 4, none⟩ = some (.int .i64 (gP L k).blob) := fun m => m.cell d4
      clear c0 c1 c2 c3 c4 d0 d1 d2 d3 d4 hP7 hP8 hown7 hown8 hv7 hv8 hx7 hy7 hx8 hy8 hlen
      go_wp2_with fail
      refine wp_region_q (by kernel_rfl) (by kernel_rfl) ?_
      (repeat (go_big_quiet_step (fail)))
      refine wpQuiet_nil ?_
      rintro wa ⟨ma, hma⟩
      have hqa : Q wr wa := by rw [hma]; exact ma.le
      have HO7 := Lib.hid (HO7.out.q hqa)
      have HO8 := Lib.hid (HO8.out.q hqa)
      have HQ := Lib.hid (HQ.out.trans hqa)
      clear hma ma hqa kc0 kc1 kc2 kc3 kc4 kd0 kd1 kd2 kd3 kd4
      obtain ⟨g', hg', hgs, hth, ho9, hg9⟩ := HO7.out.setP k hlt p5
      cases hg'
      rw [lkP_set _ _ _ hkl] at ho9
      have HO9 := Lib.hid ho9
      have HP9 := Lib.hid (HO8.out.g hg9 (fun b hb e => by have := (HO8.out.block hb).1; have := HSEP.out g7 rfl; cases e; omega))
      have HQ9 := Lib.hid (Below.grown HQ.out hg9 HQ.out.size (fun b hb => by cases hb; exact hgs))
      clear ho9 hg9 hgs
      have hkm : (k : Int) < (m : Int) := by omega
      go_upto_region 14 with (fail)
      iterate 13 go_step
      refine wpList_store_mid rfl 31 (.tmp 69) (.tmp 68) rfl g7 (k * 5) (partL p5).toArray (by rfl) (by rfl) hth infoP (partL_one _) ?_
      clear hth
      go_wp2_with fail
      go_roundw
      case rel => exact ⟨k + 1, hlt, by go_num, HO9.out, HP9.out, HQ9.out⟩
      case measure => simp [intOf]; omega
    · have g1 : decide (k < m) = false := by simpa using hlt
      have hLr := hLL.out.go HQ.out
      have c6 := hLr.bu.c6
      clear HO7 HO8
      go_wp2_with fail
      refine (still_any (some ⟨G, 0, none⟩) A n (n + 1) cap ps wr hLr.x hLr.p hn).mono ?_
      rintro e w9 ⟨rfl, hq9⟩
      have hfin := hLr.q.trans hq9
      clear hq9 c6
      go_wp2_with fail
      go_ret
      exact ⟨rfl, hfin⟩
end Go.Proofs.YtbhgekhcpagkoaaDoor
