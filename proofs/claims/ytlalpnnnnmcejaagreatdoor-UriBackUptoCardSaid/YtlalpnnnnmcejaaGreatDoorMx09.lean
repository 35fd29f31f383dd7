/- Texts of this proof, laid into one: VaE, VaK, Fin. -/
import Derived.Test.YtlalpnnnnmcejaaGreatDoorMx08
/- The document's Target. -/
set_option linter.unusedVariables false
set_option linter.unusedSimpArgs false
namespace Go.Proofs.YtlalpnnnnmcejaaGreatDoor
open Go Go.RowKit
/-- What has been seen of a target's bytes. -/
def SeenT (s : List UInt8) (k q : Nat) : Prop := (∀ j, j < k → badC (gB s j) = false) ∧ ((q = s.length ∧ ∀ j, j < k → gB s j ≠ 63) ∨ (q < k ∧ gB s q = 63 ∧ ∀ j, j < q → gB s j ≠ 63))
theorem SeenT.at {s : List UInt8} {q : Nat} (h : SeenT s s.length q) : s.findIdx? badC = none ∧ AtC 63 s q := by
  refine ⟨find_none s h.1, ?_⟩
  rcases h.2 with ⟨rfl, h2⟩ | ⟨h1, h2, h3⟩
  · exact ⟨Nat.le_refl _, h2, fun h => by omega⟩
  · exact ⟨by omega, h3, fun _ => h2⟩
theorem SeenT.le {s : List UInt8} {k q : Nat} (h : SeenT s k q) (hk : k ≤ s.length) : q ≤ s.length := by
  rcases h.2 with ⟨rfl, _⟩ | ⟨h1, _⟩ <;> omega
theorem SeenT.next {s : List UInt8} {k q : Nat} (h : SeenT s k q) (hk : k < s.length) (hb : badC (gB s k) = false) (hn : gB s k ≠ 63 ∨ q ≠ s.length) : SeenT s (k + 1) q := by
  refine ⟨fun j hj => ?_, ?_⟩
  · by_cases e : j = k
    · subst e; exact hb
    · exact h.1 j (by omega)
  · rcases h.2 with ⟨h1, h2⟩ | ⟨h1, h2, h3⟩
    · refine .inl ⟨h1, fun j hj => ?_⟩
      by_cases e : j = k
      · subst e; rcases hn with h | h
        · exact h
        · exact absurd h1 h
      · exact h2 j (by omega)
    · exact .inr ⟨by omega, h2, h3⟩
theorem SeenT.first {s : List UInt8} {k : Nat} (h : SeenT s k s.length) (hk : k < s.length) (hb : badC (gB s k) = false) (hc : gB s k = 63) : SeenT s (k + 1) k := by
  refine ⟨fun j hj => ?_, .inr ⟨by omega, hc, fun j hj => ?_⟩⟩
  · by_cases e : j = k
    · subst e; exact hb
    · exact h.1 j (by omega)
  · rcases h.2 with ⟨_, h2⟩ | ⟨h1, _⟩
    · exact h2 j hj
    · omega
theorem sub_zero (s : List UInt8) (q : Nat) : sub s 0 q = s.take q := by simp [sub]
set_option maxRecDepth 100000 in
set_option maxHeartbeats 4000000 in
theorem RTarget_any (s : List UInt8) (w : World) (hl : s.length ≤ 100000000) :
    Calls Tryz.prog 13 #[.string ⟨s.toArray⟩] w (TgtPost s w) := by
  by_cases hh : s.head? = some 47
  case neg =>
    have HT : Hid (tgtL s = ([], [], 53, 0)) := Lib.hid (by unfold tgtL; rw [if_neg hh])
    by_cases hz : s.length = 0
    · have hE : s.isEmpty = true := by simpa using List.eq_nil_of_length_eq_zero hz
      clear hh hz
      go_enter Tryz.func13, Tryz.ntmps13
      go_wp2_with fail
      ((try simp only [Exit.inBlock, Exit.then]); refine bodyPost_ret (results_tmp4 rfl _ _ _) rfl ?_)
      unfold TgtPost
      rw [HT.out]
      exact ⟨.slice none 0 0, rfl, OwnU.nil _ _, Q.refl _⟩
    · have hE : s.isEmpty = false := by
        rcases s with _ | ⟨x, r⟩
        · exact absurd rfl hz
        · rfl
      have h0 : ¬ ((gB s 0).toNat : Int) = 47 := by
        intro h
        have : gB s 0 = 47 := UInt8.toNat_inj.1 (show (gB s 0).toNat = 47 by omega)
        apply hh
        rcases s with _ | ⟨x, r⟩
        · exact absurd rfl hz
        · simp [gB] at this; simp [this]
      have h0e : (((gB s 0).toNat : Int) == 47) = false := by simpa using h0
      have hzl : 0 < s.length := by omega
      clear hh
      go_enter Tryz.func13, Tryz.ntmps13
      go_wp2_with fail
      ((try simp only [Exit.inBlock, Exit.then]); refine bodyPost_ret (results_tmp4 rfl _ _ _) rfl ?_)
      unfold TgtPost
      rw [HT.out]
      exact ⟨.slice none 0 0, rfl, OwnU.nil _ _, Q.refl _⟩
  case pos =>
    have hE : s.isEmpty = false := by
      rcases s with _ | ⟨x, r⟩
      · simp at hh
      · rfl
    have hzl : 0 < s.length := by
      rcases s with _ | ⟨x, r⟩
      · simp at hh
      · simp
    have h0 : ((gB s 0).toNat : Int) = 47 := by
      rcases s with _ | ⟨x, r⟩
      · simp at hh
      · simp at hh; subst hh; rfl
    have h0e : (((gB s 0).toNat : Int) == 47) = true := by simpa using h0
    have HH := Lib.hid hh
    clear hh h0
    go_enter Tryz.func13, Tryz.ntmps13
    go_wp2_with fail
    clear h0e hE
    go_loopw [6, 7] (fun qv i wr => ∃ k q : Nat, k ≤ s.length ∧ qv = .int .i64 (q : Int) ∧ i = .int .i64 (k : Int) ∧ q ≤ s.length ∧ Hid (SeenT s k q) ∧ wr = w) (fun _ i _ => s.length - (intOf i).toNat)
    case atStart => exact ⟨0, s.length, by omega, rfl, rfl, by omega, Lib.hid ⟨fun j h => by omega, .inl ⟨rfl, fun j h => by omega⟩⟩, rfl⟩
    case round =>
      obtain ⟨k, q, hk, rfl, rfl, hq, HS, rfl⟩ := hrel
      by_cases hlt : k < s.length
      · have g1 : decide (k < s.length) = true := by simpa using hlt
        rcases hb : badC (gB s k) with _ | _
        · obtain ⟨b, hgb⟩ : ∃ b, gB s k = b := ⟨_, rfl⟩
          have HB := Lib.hid hb
          have HGB := Lib.hid hgb
          unfold badC at hb
          rw [hgb] at hb
          simp only [Bool.or_eq_false_iff, decide_eq_false_iff_not, beq_eq_false_iff_ne] at hb
          obtain ⟨⟨b1, b2⟩, b3⟩ := hb
          have b1' : ¬ ((b.toNat : Int) < 33) := by omega
          have b2' : ¬ ((126 : Int) < (b.toNat : Int)) := by omega
          have b3' : ¬ (b.toNat : Int) = 35 := fun h => b3 (UInt8.toNat_inj.mp (show b.toNat = 35 by omega))
          have b3e : ((b.toNat : Int) == 35) = false := by simpa using b3'
          by_cases hc : b = 63
          · have c1 : ((b.toNat : Int) == 63) = true := by rw [hc]; rfl
            by_cases hqe : q = s.length
            · have HN : Hid (SeenT s (k + 1) k) := Lib.hid (by have h := HS.out; rw [hqe] at h; exact h.first hlt HB.out (by rw [HGB.out, hc]))
              clear hc b1 b2 b3 b3'
              subst hqe
              go_wp2_with fail
              go_roundw
              case rel => exact ⟨k + 1, k, by omega, rfl, by go_num, by omega, HN, trivial⟩
              case measure => simp [intOf]; omega
            · have HN : Hid (SeenT s (k + 1) q) := Lib.hid (HS.out.next hlt HB.out (.inr hqe))
              have hq1 : (q == s.length) = false := by simpa using hqe
              have hq2 : ((q : Int) == (s.length : Int)) = false := by rw [beq_eq_false_iff_ne]; omega
              have hq3 : ¬ (q : Int) = (s.length : Int) := by omega
              clear hc b1 b2 b3 b3'
              go_wp2_with fail
              go_roundw
              case rel => exact ⟨k + 1, q, by omega, rfl, by go_num, by omega, HN, trivial⟩
              case measure => simp [intOf]; omega
          · have c1 : ((b.toNat : Int) == 63) = false := by
              rw [beq_eq_false_iff_ne]; intro h; exact hc (UInt8.toNat_inj.1 (show b.toNat = 63 by omega))
            have c2 : ¬ (b.toNat : Int) = 63 := by simpa using c1
            have HN : Hid (SeenT s (k + 1) q) := Lib.hid (HS.out.next hlt HB.out (.inl (by rw [HGB.out]; exact hc)))
            clear hc b1 b2 b3
            go_wp2_with fail
            go_roundw
            case rel => exact ⟨k + 1, q, by omega, rfl, by go_num, by omega, HN, trivial⟩
            case measure => simp [intOf]; omega
        · have HF : Hid (tgtL s = ([], [], 53, (k : Int))) := Lib.hid (by unfold tgtL; rw [if_pos HH.out, find_take s k hlt HS.out.1 hb])
          obtain ⟨b, hgb⟩ : ∃ b, gB s k = b := ⟨_, rfl⟩
          rw [hgb] at hb
          have hc : (b.toNat : Int) < 33 ∨ (¬ (b.toNat : Int) < 33 ∧ (126 : Int) < (b.toNat : Int)) ∨ (¬ (b.toNat : Int) < 33 ∧ ¬ (126 : Int) < (b.toNat : Int) ∧ ((b.toNat : Int) == 35) = true) := by
            unfold badC at hb
            simp only [Bool.or_eq_true, decide_eq_true_eq, beq_iff_eq] at hb
            rcases hb with (h | h) | h
            · left; omega
            · right; left; omega
            · right; right; subst h; decide
          clear hb
          rcases hc with hc | ⟨h1, hc⟩ | ⟨h1, h2, hc⟩
          all_goals
            go_wp2_with fail
            all_goals
              ((try simp only [Exit.inBlock, Exit.then]); refine bodyPost_ret (results_tmp4 rfl _ _ _) rfl ?_)
              unfold TgtPost
              rw [HF.out]
              exact ⟨.slice none 0 0, rfl, OwnU.nil _ _, Q.refl _⟩
      · obtain rfl : k = s.length := by omega
        have HAt := Lib.hid HS.out.at
        clear HS hlt hk
        have hlen := length_sub s 0 q
        have hrl : (sub s 0 q).length ≤ 100000000 := by omega
        have HD := Lib.hid (fun W => RDecode_any (sub s 0 q) W hrl)
        clear hlen hrl
        rcases hd : decR (sub s 0 q) with ⟨pt, _ | kb⟩
        · have hrd : rdecOut (sub s 0 q) = (pt, -1) := by unfold rdecOut; rw [hd]
          rw [hrd] at HD
          have HR : Hid (tgtL s = match remT s (q + 1) [] with | (some b, _) => ([], [], 52, (b : Int)) | (none, ps) => (pt, ps, 0, 0)) := Lib.hid (by
            have h := rtgt_rest HH.out HAt.out.1 HAt.out.2 (by rw [← sub_zero, hd])
            rw [← sub_zero, hd] at h; exact h)
          clear hrd hd
          go_wp2_with fail
          refine (HD.out _).mono ?_
          rintro e W2 ⟨rfl, hq2⟩
          have HQ2 := Lib.hid hq2
          clear hq2 HD
          go_wp2_with fail
          clear HAt
          go_loopw [10, 11] (fun v i wr => ∃ (a : Nat) (out : List PairD), a ≤ s.length + 1 ∧ i = .int .i64 (a : Int) ∧ Hid (OwnU W2 wr v out) ∧ Hid (Q W2 wr) ∧ Hid (remT s a out = remT s (q + 1) []) ∧ Hid (out.length ≤ a)) (fun _ i _ => s.length + 2 - (intOf i).toNat)
          case atStart => exact ⟨q + 1, [], by omega, by go_num, Lib.hid (OwnU.nil _ _), Lib.hid (Q.refl _), Lib.hid rfl, Lib.hid (by simp)⟩
          case round =>
            clear hq
            obtain ⟨a, out, ha, rfl, HO, HQ, HM, HL⟩ := hrel
            by_cases hle : a ≤ s.length
            · rename World => wa
              have HAN : Hid (∀ j, a ≤ j → j < a → gB s j ≠ 38) := Lib.hid (fun j h1 h2 => by omega)
              have HEN : Hid (∀ j, a ≤ j → j < a → gB s j ≠ 61) := Lib.hid (fun j h1 h2 => by omega)
              go_upto_block 2 with (fail)
              go_loop [12] (fun i => ∃ e : Nat, a ≤ e ∧ e ≤ s.length ∧ i = .int .i64 (e : Int) ∧ Hid (∀ j, a ≤ j → j < e → gB s j ≠ 38)) (fun i => s.length - (intOf i).toNat)
              case atStart => exact ⟨a, by omega, by omega, rfl, HAN⟩
              case round =>
                clear HAN
                obtain ⟨e, hae, hes, rfl, HA⟩ := hrel
                by_cases hm : e < s.length ∧ gB s e ≠ 38
                · obtain ⟨hm1, hm2⟩ := hm
                  have c1 : ¬ ((gB s e).toNat : Int) = 38 := fun h => hm2 (UInt8.toNat_inj.1 (show (gB s e).toNat = 38 by omega))
                  have c2 : (((gB s e).toNat : Int) == 38) = false := by simpa using c1
                  have HA2 : Hid (∀ j, a ≤ j → j < e + 1 → gB s j ≠ 38) := Lib.hid (fun j h1 h2 => by
                    by_cases ej : j = e
                    · subst ej; exact hm2
                    · exact HA.out j h1 (by omega))
                  clear hm2 HO HQ HM HL HEN
                  go_wp2_with fail
                  go_round
                  case rel => exact ⟨e + 1, by omega, by omega, by go_num, HA2⟩
                  case measure => simp [intOf]; omega
                · have HE38 : Hid (e < s.length → gB s e = 38) := Lib.hid (fun h => Decidable.byContradiction fun h2 => hm ⟨h, h2⟩)
                  have hcs : ¬ (e : Int) < (s.length : Int) ∨ (e < s.length ∧ (((gB s e).toNat : Int) == 38) = true) := by
                    by_cases h : e < s.length
                    · right; exact ⟨h, by rw [HE38.out h]; rfl⟩
                    · left; omega
                  clear hm
                  rcases hcs with hge | ⟨hlt2, c38⟩
                  all_goals
                    go_upto_block 2 with (fail)
                    try clear c38
                    go_loop [13] (fun i => ∃ k : Nat, a ≤ k ∧ k ≤ e ∧ i = .int .i64 (k : Int) ∧ Hid (∀ j, a ≤ j → j < k → gB s j ≠ 61)) (fun i => e - (intOf i).toNat)
                    case atStart => exact ⟨a, by omega, by omega, rfl, HEN⟩
                    case round =>
                      clear HEN
                      obtain ⟨k, hak, hke, rfl, HB⟩ := hrel
                      by_cases hm : k < e ∧ gB s k ≠ 61
                      · obtain ⟨hm1, hm2⟩ := hm
                        have hks : k < s.length := by omega
                        have c1 : ¬ ((gB s k).toNat : Int) = 61 := fun h => hm2 (UInt8.toNat_inj.1 (show (gB s k).toNat = 61 by omega))
                        have c2 : (((gB s k).toNat : Int) == 61) = false := by simpa using c1
                        have HB2 : Hid (∀ j, a ≤ j → j < k + 1 → gB s j ≠ 61) := Lib.hid (fun j h1 h2 => by
                          by_cases ej : j = k
                          · subst ej; exact hm2
                          · exact HB.out j h1 (by omega))
                        clear hm2 HO HQ HM HL
                        go_wp2_with fail
                        go_round
                        case rel => exact ⟨k + 1, by omega, by omega, by go_num, HB2⟩
                        case measure => simp [intOf]; omega
                      · have HK61 : Hid (k < e → gB s k = 61) := Lib.hid (fun h => Decidable.byContradiction fun h2 => hm ⟨h, h2⟩)
                        have hcs2 : ¬ (k : Int) < (e : Int) ∨ (k < e ∧ k < s.length ∧ (((gB s k).toNat : Int) == 61) = true) := by
                          by_cases h : k < e
                          · right; exact ⟨h, by omega, by rw [HK61.out h]; rfl⟩
                          · left; omega
                        clear hm
                        by_cases hae2 : a < e
                        · have HP := Lib.hid (rem_piece (out := out) hae2 hak hke hes HA.out HE38.out HB.out HK61.out)
                          have hln : (sub s a k).length ≤ 100000000 := by have := length_sub s a k; omega
                          have HD := Lib.hid (fun W => RDecode_any (sub s a k) W hln)
                          clear hln
                          rcases hd : decR (sub s a k) with ⟨nm, _ | kb⟩
                          · have hrd : rdecOut (sub s a k) = (nm, -1) := by unfold rdecOut; rw [hd]
                            rw [hrd] at HD
                            rw [hd] at HP
                            clear hrd hd
                            by_cases hke2 : k < e
                            · have hln : (sub s (k + 1) e).length ≤ 100000000 := by have := length_sub s (k + 1) e; omega
                              have HD2 := Lib.hid (fun W => RDecode_any (sub s (k + 1) e) W hln)
                              clear hln
                              simp only [if_pos hke2] at HP
                              rcases hcs2 with hge2 | ⟨_, hks, c61⟩
                              · omega
                              go_upto_region 23 with (fail)
                              clear c61
                              rcases hd2 : decR (sub s (k + 1) e) with ⟨vl, _ | kb⟩
                              · have hrd : rdecOut (sub s (k + 1) e) = (vl, -1) := by unfold rdecOut; rw [hd2]
                                rw [hrd] at HD2
                                rw [hd2] at HP
                                simp only at HP
                                clear hrd hd2
                                go_wp2_with fail
                                refine (HD.out _).mono ?_
                                rintro e' W3 ⟨rfl, hq3⟩
                                have HO3 := Lib.hid (HO.out.q hq3)
                                have HQ3 := Lib.hid (HQ.out.trans hq3)
                                clear hq3 HO HQ HD
                                go_wp2_with fail
                                refine (HD2.out _).mono ?_
                                rintro e' W4 ⟨rfl, hq4⟩
                                obtain ⟨N7, hN7⟩ : ∃ N, W3.heap.size = N := ⟨_, rfl⟩
                                have hpb : PB W4 N7 (nm, []) := by rw [← hN7]; exact hq4.block (heap_alloc_new W3 _)
                                have hq34 : Q W3 W4 := ((Q.refl W3).alloc _).trans hq4
                                have HO4 := Lib.hid (HO3.out.q hq34)
                                have HQ4 := Lib.hid (HQ3.out.trans hq34)
                                have hNE : ∀ g, u10.ownBlock = some g → g ≠ N7 := fun g hg ee => by have h1 := (HO3.out.block hg).2.1; omega
                                have HNE := Lib.hid hNE
                                have hW2N : W2.heap.size ≤ N7 := by rw [← hN7]; exact HQ3.out.size
                                have HPB4 := Lib.hid hpb
                                have cz := hpb.c1
                                have fz := hpb.f (i := 1)
                                rw [hN7]
                                clear hq4 hq34 hpb hNE hN7 HO3 HQ3 HD2
                                go_upto_region 33 with (fail)
                                obtain ⟨WY, hWY⟩ : ∃ W, W4.setCell ⟨N7, 1, none⟩ (.string ⟨vl.toArray⟩) = W := ⟨_, rfl⟩
                                have HPB : Hid (PB WY N7 (nm, vl)) := Lib.hid (by rw [← hWY]; exact HPB4.out.set1)
                                have HOX : Hid (OwnU W2 WY u10 out) := Lib.hid (by
                                  rw [← hWY]
                                  exact HO4.out.g (gb_set (b := W4) (g := N7) ⟨rfl, rfl, rfl, Nat.le_refl _, fun _ _ _ => rfl⟩ 1 _) (fun g hg ee => HNE.out g hg (by injection ee with ee; exact ee.symm)))
                                have HQX : Hid (Q W2 WY) := Lib.hid (by rw [← hWY]; exact HQ4.out.setNew hW2N _)
                                rw [hWY]
                                clear hWY cz fz HO4 HQ4 HPB4
                                iterate 4 go_step
                                refine wpList_load_row rfl 37 (.tmp 16) rfl N7 rfl _ _ _ _ HPB.out Tryz.underlying37 rfl infoP ?_
                                simp only [pairL, Act.put, List.setIfInBounds_toArray, List.set_cons_succ, List.set_cons_zero]
                                iterate 3 go_step
                                refine wpList_append_u rfl (.tmp 141) (.tmp 143) rfl W2 WY u10 out (nm, vl) rfl HOX.out rfl HQX.out.size (by have := HL.out; omega) ?_
                                intro v9 w9 ho9 hg9
                                have hq9 : Q W2 w9 := gb_q_own hg9 HQX.out (fun b hb => (HOX.out.block hb).1)
                                have HO9 := Lib.hid ho9
                                have HQ9 := Lib.hid hq9
                                clear ho9 hg9 hq9 HOX HQX HPB
                                go_wp2_with fail
                                go_roundw
                                case rel => exact ⟨e + 1, out ++ [(nm, vl)], by omega, by go_num, HO9, HQ9, Lib.hid (by rw [← HM.out, HP.out]), Lib.hid (by have := HL.out; rw [List.length_append]; simp; omega)⟩
                                case measure => simp [intOf]; omega
                              · have hkb := decR_lt (l := sub s (k + 1) e) (k := kb) (by rw [hd2])
                                have hlk := length_sub s (k + 1) e
                                have hkb2 : kb ≤ 100000000 := by omega
                                have hrd : rdecOut (sub s (k + 1) e) = ([], (kb : Int)) := by unfold rdecOut; rw [hd2]
                                rw [hrd] at HD2
                                rw [hd2] at HP
                                simp only at HP
                                have HF : Hid (tgtL s = ([], [], 52, (k : Int) + 1 + (kb : Int))) := Lib.hid (by rw [HR.out, ← HM.out, HP.out]; simp)
                                clear hrd hd2 hkb hlk
                                go_wp2_with fail
                                refine (HD.out _).mono ?_
                                rintro e' W3 ⟨rfl, hq3⟩
                                have HQ3a := Lib.hid (HQ.out.trans hq3)
                                clear hq3 HO HQ HD
                                go_wp2_with fail
                                refine (HD2.out _).mono ?_
                                rintro e' W4 ⟨rfl, hq4⟩
                                have HQ3 := Lib.hid (HQ3a.out.trans (((Q.refl W3).alloc _).trans hq4))
                                clear hq4
                                go_wp2_with fail
                                ((try simp only [Exit.inBlock, Exit.then]); refine bodyPost_ret (results_tmp4 rfl _ _ _) rfl ?_)
                                unfold TgtPost
                                rw [HF.out]
                                exact ⟨.slice none 0 0, rfl, OwnU.nil _ _, HQ2.out.trans HQ3.out⟩
                            · simp only [if_neg hke2] at HP
                              rcases hcs2 with hge2 | ⟨hc2, _⟩
                              case inr => omega
                              go_upto_region 23 with (fail)
                              go_wp2_with fail
                              refine (HD.out _).mono ?_
                              rintro e' W3 ⟨rfl, hq3⟩
                              have HO3 := Lib.hid (HO.out.q hq3)
                              have HQ3 := Lib.hid (HQ.out.trans hq3)
                              clear hq3 HO HQ HD
                              go_upto_region 33 with (fail)
                              obtain ⟨N7, hN7⟩ : ∃ N, W3.heap.size = N := ⟨_, rfl⟩
                              obtain ⟨WY, hWY⟩ : ∃ W, W3.alloc (.cells #[.string ⟨nm.toArray⟩, .string ⟨#[]⟩] 37) = W := ⟨_, rfl⟩
                              have HPB : Hid (PB WY N7 (nm, [])) := Lib.hid (by rw [← hWY, ← hN7]; exact heap_alloc_new W3 _)
                              have hqY : Q W3 WY := by rw [← hWY]; exact (Q.refl W3).alloc _
                              have HOX : Hid (OwnU W2 WY u10 out) := Lib.hid (HO3.out.q hqY)
                              have HQX : Hid (Q W2 WY) := Lib.hid (HQ3.out.trans hqY)
                              rw [hN7, hWY]
                              clear hWY hN7 hqY HO3 HQ3
                              iterate 4 go_step
                              refine wpList_load_row rfl 37 (.tmp 16) rfl N7 rfl _ _ _ _ HPB.out Tryz.underlying37 rfl infoP ?_
                              simp only [pairL, Act.put, List.setIfInBounds_toArray, List.set_cons_succ, List.set_cons_zero]
                              iterate 3 go_step
                              refine wpList_append_u rfl (.tmp 141) (.tmp 143) rfl W2 WY u10 out (nm, []) rfl HOX.out rfl HQX.out.size (by have := HL.out; omega) ?_
                              intro v9 w9 ho9 hg9
                              have hq9 : Q W2 w9 := gb_q_own hg9 HQX.out (fun b hb => (HOX.out.block hb).1)
                              have HO9 := Lib.hid ho9
                              have HQ9 := Lib.hid hq9
                              clear ho9 hg9 hq9 HOX HQX HPB
                              go_wp2_with fail
                              go_roundw
                              case rel => exact ⟨e + 1, out ++ [(nm, [])], by omega, by go_num, HO9, HQ9, Lib.hid (by rw [← HM.out, HP.out]), Lib.hid (by have := HL.out; rw [List.length_append]; simp; omega)⟩
                              case measure => simp [intOf]; omega
                          · have hkb := decR_lt (l := sub s a k) (k := kb) (by rw [hd])
                            have hlk := length_sub s a k
                            have hkb2 : kb ≤ 100000000 := by omega
                            have hrd : rdecOut (sub s a k) = ([], (kb : Int)) := by unfold rdecOut; rw [hd]
                            rw [hrd] at HD
                            rw [hd] at HP
                            simp only at HP
                            have HF : Hid (tgtL s = ([], [], 52, (a : Int) + (kb : Int))) := Lib.hid (by rw [HR.out, ← HM.out, HP.out]; simp)
                            clear hrd hd hkb hlk
                            rcases hcs2 with hge2 | ⟨_, hks, c61⟩
                            all_goals
                              go_upto_region 23 with (fail)
                              try clear c61
                              go_wp2_with fail
                              refine (HD.out _).mono ?_
                              rintro e' W3 ⟨rfl, hq3⟩
                              have HQ3 := Lib.hid (HQ.out.trans hq3)
                              clear hq3 HO HQ HD
                              go_wp2_with fail
                              ((try simp only [Exit.inBlock, Exit.then]); refine bodyPost_ret (results_tmp4 rfl _ _ _) rfl ?_)
                              unfold TgtPost
                              rw [HF.out]
                              exact ⟨.slice none 0 0, rfl, OwnU.nil _ _, HQ2.out.trans HQ3.out⟩
                        · obtain rfl : e = a := by omega
                          have HM2 : Hid (remT s (e + 1) out = remT s (q + 1) []) := Lib.hid (by rw [← rem_empty hes HE38.out]; exact HM.out)
                          rcases hcs2 with hge2 | ⟨hc2, _⟩
                          case inr => omega
                          go_wp2_with fail
                          go_roundw
                          case rel => exact ⟨e + 1, out, by omega, by go_num, HO, HQ, HM2, Lib.hid (by have := HL.out; omega)⟩
                          case measure => simp [intOf]; omega
            · obtain rfl : a = s.length + 1 := by omega
              have HE : Hid (remT s (q + 1) [] = (none, out)) := Lib.hid (by rw [← HM.out]; unfold remT; rw [if_neg hle])
              have hge : ¬ ((s.length : Int) + 1 ≤ (s.length : Int)) := by omega
              clear HM HL ha hle
              go_wp2_with fail
              ((try simp only [Exit.inBlock, Exit.then]); refine bodyPost_ret (results_tmp4 rfl _ _ _) rfl ?_)
              unfold TgtPost
              rw [HR.out, HE.out]
              refine ⟨_, rfl, ?_, HQ2.out.trans HQ.out⟩
              refine ⟨HO.out.1, ?_⟩
              rcases HO.out.2 with h1 | ⟨g, cap, cur, hv, h1, h2⟩
              · exact .inl h1
              · exact .inr ⟨g, cap, cur, hv, by have := HQ2.out.size; omega, h2⟩
        · have hrd : rdecOut (sub s 0 q) = ([], (kb : Int)) := by unfold rdecOut; rw [hd]
          rw [hrd] at HD
          have HR : Hid (tgtL s = ([], [], 52, (kb : Int))) := Lib.hid (rtgt_path HH.out HAt.out.1 HAt.out.2 (by rw [← sub_zero, hd]))
          clear hrd hd
          go_wp2_with fail
          refine (HD.out _).mono ?_
          rintro e W2 ⟨rfl, hq2⟩
          have HQ2 := Lib.hid hq2
          clear hq2 HD
          go_wp2_with fail
          ((try simp only [Exit.inBlock, Exit.then]); refine bodyPost_ret (results_tmp4 rfl _ _ _) rfl ?_)
          unfold TgtPost
          rw [HR.out]
          exact ⟨.slice none 0 0, rfl, OwnU.nil _ _, HQ2.out⟩
end Go.Proofs.YtlalpnnnnmcejaaGreatDoor
/- The law UriTargets. -/
set_option linter.unusedVariables false
set_option linter.unusedSimpArgs false
namespace Go.Proofs.YtlalpnnnnmcejaaGreatDoor
open Go Go.RowKit
theorem tgt_len (s : List UInt8) : (tgtL s).2.1.length ≤ s.length + 1 := by
  have h1 := fold_len (splitC 38 (cutB 63 s).2.1) (startT (cutB 63 s).1)
  have h2 := len_sumU (splitC 38 (cutB 63 s).2.1)
  rw [sumU_split] at h2
  have h3 := cutB_le 63 s
  have h4 : (startT (cutB 63 s).1).ps.length = 0 := rfl
  have h5 : (runT s).ps.length ≤ s.length + 1 := by unfold runT; omega
  unfold tgtL
  split
  · split
    · simp
    · split
      · simp
      · exact h5
  · simp
set_option maxRecDepth 100000 in
set_option maxHeartbeats 2000000 in
theorem UriTargets_any (s : List UInt8) (w : World) (hs : s.length ≤ 1048576) (h : U13 w) : Calls Tryz.prog 4 #[.string ⟨s.toArray⟩] w fun e w' => e = .returned (.bool true) ∧ Q w w' := by
  have HU := Lib.hid h
  have hl : s.length ≤ 100000000 := by omega
  have HT := Lib.hid (fun W hW => Target_any s W hW hl)
  have HRT := Lib.hid (fun W => RTarget_any s W hl)
  have htl := tgt_len s
  unfold TgtPost at HT HRT
  obtain ⟨⟨P, L, ee, aa⟩, hT⟩ : ∃ T, tgtL s = T := ⟨_, rfl⟩
  rw [hT] at HT HRT htl
  simp only at HT HRT htl
  clear h hT
  go_enter Tryz.func4, Tryz.ntmps4
  go_wp2_with fail
  refine (examples13_any _ HU.out).mono ?_
  rintro e w1 ⟨rfl, hq1⟩
  have HQ1 := Lib.hid hq1
  clear hq1
  go_wp2_with fail
  refine (HRT.out _).mono ?_
  rintro e w2 ⟨v5, rfl, ho5, hq2⟩
  have HO5 := Lib.hid ho5
  have HQ2 := Lib.hid (HQ1.out.trans hq2)
  clear hq2 ho5 HRT
  go_wp2_with fail
  go_loopw [8] (fun i wr => ∃ t : Nat, t ≤ 2 ∧ i = .int .i64 (t : Int) ∧ Hid (OwnU w1 wr v5 L) ∧ Hid (Q w wr)) (fun i _ => 2 - (intOf i).toNat)
  case atStart => exact ⟨0, by omega, rfl, HO5, HQ2⟩
  case round =>
    clear HO5 HQ2
    obtain ⟨t, ht, rfl, HO5, HQ⟩ := hrel
    rename World => wa
    by_cases hlt : t < 2
    · have g1 : decide (t < 2) = true := by simpa using hlt
      go_wp2_with fail
      refine (HT.out _ (HU.out.q HQ.out)).mono ?_
      rintro e w3 ⟨v10, rfl, ho10, hq3⟩
      have ho5 := HO5.out.q hq3
      obtain ⟨A, cap, rfl, hcap, hpa⟩ := ho10.pairs
      obtain ⟨A5, cap5, hv5, hcap5, hpa5⟩ := ho5.pairs
      subst hv5
      have HO10 := Lib.hid ho10
      have HQ3 := Lib.hid (HQ.out.trans hq3)
      have HQ3b := Lib.hid hq3
      have HPA := Lib.hid hpa
      have HPA5 := Lib.hid hpa5
      clear ho10 ho5 hpa hpa5 hq3
      go_wp2_with fail
      refine (same_any A A5 L.length L.length cap cap5 L L _ HPA.out HPA5.out (by omega) (by omega)).mono ?_
      rintro e w4 ⟨rfl, hq4⟩
      rw [decide_eq_true (rfl : L = L)]
      have HO10 := Lib.hid (HO10.out.q hq4)
      have HQ4 := Lib.hid (HQ3.out.trans hq4)
      have HQ4b := Lib.hid (HQ3b.out.trans hq4)
      clear hq4 HPA HPA5 HQ3 HQ3b
      go_wp2_with fail
      go_loopw [14] (fun i wr => ∃ (q : Nat) (m : List PairD), q ≤ L.length ∧ i = .int .i64 (q : Int) ∧ Hid (m.length = L.length) ∧ Hid (OwnU wa wr (.slice A L.length cap) m) ∧ Hid (Q wa wr)) (fun i _ => L.length - (intOf i).toNat)
      case atStart => exact ⟨0, L, by omega, rfl, Lib.hid rfl, HO10, HQ4b⟩
      case round =>
        obtain ⟨q, m, hq, rfl, HML, HOM, HQM⟩ := hrel
        rename World => wb
        by_cases hql : q < L.length
        · have g2 : decide (q < L.length) = true := by simpa using hql
          obtain ⟨g, rfl, hgs, hth, ho9, hg9⟩ := HOM.out.setU q hql ([63], [])
          have HO9 := Lib.hid ho9
          have HQ9 : Hid (Q wa (wb.setCells g (q * 2) (pairL ([63], [])))) := Lib.hid (Below.grown HQM.out hg9 HQM.out.size (fun b hb => by cases hb; exact hgs))
          have HM9 : Hid ((m.set q ([63], [])).length = L.length) := Lib.hid (by rw [List.length_set]; exact HML.out)
          clear ho9 hg9 hgs
          go_upto_region 13 with (fail)
          iterate 13 go_step
          refine wpList_store_mid rfl 37 (.tmp 63) (.tmp 62) rfl g (q * 2) (pairL ([63], [])).toArray (by rfl) (by rfl) hth infoP (pairL_one _) ?_
          clear hth
          go_wp2_with fail
          go_roundw
          case rel => exact ⟨q + 1, _, by omega, by go_num, HM9, HO9, HQ9⟩
          case measure => simp [intOf]; omega
        · obtain rfl : q = L.length := by omega
          have HO5b := Lib.hid (HO5.out.q HQM.out)
          clear hql
          go_wp2_with fail
          go_roundw
          case rel => exact ⟨t + 1, by omega, by go_num, HO5b, Lib.hid (HQ.out.trans HQM.out)⟩
          case measure => simp [intOf]; omega
    · obtain rfl : t = 2 := by omega
      clear hlt
      rw [show ((2 : Nat) : Int) = 2 from rfl]
      go_wp2_with fail
      go_ret
      exact ⟨rfl, HQ.out⟩
end Go.Proofs.YtlalpnnnnmcejaaGreatDoor
/- A region that draws its order: some pure operations first, then reads (and what lays memory) in stages, and at the end a forced chain for which all the rest but the pure ones must wait: of that chain nothing is asked. -/
set_option linter.unusedVariables false
namespace Go.Proofs.YtlalpnnnnmcejaaGreatDoor
open Go Go.RowKit
section
variable {P : Program} {ops : Array Oper} {R : Exit → Act → World → Prop} {S : World → Prop}
/-- Whatever order is picked from here on, and S holds behind every operation ahead of those of zs. -/
def wpAnyZ (P : Program) (ops : Array Oper) (R : Exit → Act → World → Prop) (S : World → Prop) (zs : List Nat) : Nat → Array Bool → Act → World → Prop
  | 0, ls, a, w => Region.ready .any ops ls = [] ∧ R .normal a w
  | f + 1, ls, a, w => (Region.ready .any ops ls = [] → R .normal a w) ∧ ∀ i ∈ Region.ready .any ops ls, wpOp P ops R i (fun a' w' => if i ∈ zs then wpAny P .any ops R f (ls.setIfInBounds i true) a' w' else S w' ∧ wpAnyZ P ops R S zs f (ls.setIfInBounds i true) a' w') a w
theorem wpAny_of_Z {zs : List Nat} : ∀ (f : Nat) (ls : Array Bool) (a : Act) (w : World), wpAnyZ P ops R S zs f ls a w → wpAny P .any ops R f ls a w
  | 0, _, _, _, h => h
  | f + 1, ls, _, _, h => ⟨h.1, fun i hi => wpOp_mono (fun a' w' h' => by
      by_cases e : i ∈ zs
      · rw [if_pos e] at h'; exact h'
      · rw [if_neg e] at h'; exact wpAny_of_Z f _ a' w' h'.2) (h.2 i hi)⟩
structure ClosedL (ops : Array Oper) (ls : Array Bool) : Prop where
  size : ls.size = ops.size
  closed : ∀ j oj, ops[j]? = some oj → ls.getD j false = true → ∀ e ∈ oj.after, Region.binds .any e = true → ls.getD e.on false = true
theorem ClosedL.set {ls : Array Bool} {i : Nat} (inv : ClosedL ops ls) (hi : i ∈ Region.ready .any ops ls) : ClosedL ops (ls.setIfInBounds i true) := by
  obtain ⟨_, oi, hoi, hall⟩ := mem_ready.1 hi
  refine ⟨by simp [inv.size], fun j oj hj hl e he hb => ?_⟩
  by_cases hij : i = j
  · subst hij
    have : oj = oi := Option.some.inj (hj.symm.trans hoi)
    subst this
    exact getD_set_true (hall e he hb)
  · rw [getD_set_ne false hij] at hl
    exact getD_set_true (inv.closed j oj hj hl e he hb)
theorem sink_all {qs : List Nat} {z : Nat} {ls : Array Bool} {N : Nat} (hN : ∀ i ∈ z :: qs, i < N) (hs : sinkL ops qs z = true) (hsz : ∀ i ∈ z :: qs, i < ops.size) (inv : ClosedL ops ls) (hz : z ∈ Region.ready .any ops ls) :
    ∀ (d i : Nat), N - i = d → i ∈ qs → ls.getD i true = false → False := by
  intro d
  induction d using Nat.strongRecOn with
  | _ d ih =>
    intro i hd hi hun
    have h1 := List.all_eq_true.1 hs i hi
    obtain ⟨j, hj, hj2⟩ := List.any_eq_true.1 h1
    simp only [Bool.and_eq_true, decide_eq_true_eq] at hj2
    obtain ⟨oj, hoj, e, he, hb, hon⟩ := Region.waitsFor_spec hj2.2
    have hjN := hN j hj
    rcases List.mem_cons.1 hj with hjt | hjt
    · subst hjt
      obtain ⟨_, oz, hoz, hall⟩ := mem_ready.1 hz
      have : oj = oz := Option.some.inj (hoj.symm.trans hoz)
      subst this
      have h2 := hall e he hb
      rw [hon, getD_both hun] at h2
      cases h2
    · cases hl : ls.getD j false with
      | true =>
        have h2 := inv.closed j oj hoj hl e he hb
        rw [hon, getD_both hun] at h2
        cases h2
      | false =>
        have hjs : j < ls.size := by rw [inv.size]; exact hsz j hj
        exact ih (N - j) (by omega) j rfl hjt (getD_in hjs hl)
theorem yields_all {o : Oper} {v : Value} {a : Act} (h : YieldsIf P ops (fun _ => True) o v a) : Yields P ops o v a := h.imp (fun ⟨hw, hv⟩ => ⟨hw, fun w => hv w trivial⟩) id
/-- T: what the operation asks of the world to be read. -/
theorem wpAnyZ_first {zs : List Nat} {i : Nat} {oi : Oper} {v : Value} {T : World → Prop} (hi : ops[i]? = some oi) (hsel : ∀ (j : Nat) (o : Oper) cs b, ops[j]? = some o → o.op ≠ .select cs b)
    (hQ : ∀ c a w, R (.panic c) (a.put oi.dst v) w → R (.panic c) a w) (hiz : i ∉ zs) (hT : ∀ w, S w → T w) (hz : (∀ ls, ClosedL ops ls → ls.getD i true = false → ∀ z ∈ zs, z ∉ Region.ready .any ops ls) ∨ ∀ w, T w) :
    ∀ (fuel : Nat) (ls : Array Bool) (a : Act) (w : World), ClosedL ops ls →
      (∀ j oj, ops[j]? = some oj → j ≠ i → ls.getD j true = false → (∀ e ∈ oj.after, Region.binds .any e = true → e.on ≠ i) → oi.apart ops oj = true) →
      i ∈ Region.ready .any ops ls → YieldsIf P ops T oi v a → S w →
      wpAnyZ P ops R S zs fuel (ls.setIfInBounds i true) (a.put oi.dst v) w → wpAnyZ P ops R S zs (fuel + 1) ls a w := by
  intro fuel
  induction fuel with
  | zero =>
    intro ls a w inv _ hr hy hS H
    refine ⟨fun h => (by rw [h] at hr; cases hr), fun j hj => ?_⟩
    by_cases hji : j = i
    · subst hji; exact hy.wpOp hi (hT w hS) (by rw [if_neg hiz]; exact ⟨hS, H⟩)
    · have := ready_mono hj hji
      rw [H.1] at this
      cases this
  | succ fuel ih =>
    intro ls a w inv hfree hr hy hS H
    have hun := (mem_ready.1 hr).1
    refine ⟨fun h => (by rw [h] at hr; cases hr), fun j hj => ?_⟩
    by_cases hji : j = i
    · subst hji; exact hy.wpOp hi (hT w hS) (by rw [if_neg hiz]; exact ⟨hS, H⟩)
    · have h1 := H.2 j (ready_mono hj hji)
      obtain ⟨hjun, oj, hoj, hall⟩ := mem_ready.1 hj
      have hnot : ∀ e ∈ oj.after, Region.binds .any e = true → e.on ≠ i := fun e he hb heq => by
        have h2 := hall e he hb
        rw [heq, getD_both hun] at h2
        cases h2
      have h2 := wpOp_putIf hoj (hfree j oj hoj hji hjun hnot) (fun cs b => hsel i oi cs b hi) (fun cs b => hsel j oj cs b hoj) hQ hy h1
      have hfree' : ∀ k ok, ops[k]? = some ok → k ≠ i → (ls.setIfInBounds j true).getD k true = false →
          (∀ e ∈ ok.after, Region.binds .any e = true → e.on ≠ i) → oi.apart ops ok = true := fun k ok hk hki hku hno => by
        refine hfree k ok hk hki ?_ hno
        by_cases hjk : j = k
        · subst hjk; exact hjun
        · rw [getD_set_ne true hjk] at hku; exact hku
      by_cases hjz : j ∈ zs
      · have hTT : ∀ w, T w := hz.elim (fun h => absurd hj (h ls inv hun j hjz)) id
        refine wpOp_mono (fun a' w' h3 => ?_) h2
        rw [if_pos hjz] at h3 ⊢
        refine wpAny_first hi hsel hQ _ _ _ _ hfree' (ready_mono hr (Ne.symm hji)) (yields_all ?_) ?_
        · exact h3.1.imp (fun ⟨hw, hv⟩ => ⟨hw, fun w _ => hv w (hTT w)⟩) id
        · rw [Array.setIfInBounds_comm _ _ hji]; exact h3.2
      · refine wpOp_mono (fun a' w' h3 => ?_) h2
        rw [if_neg hjz] at h3 ⊢
        refine ⟨h3.2.1, ih (ls.setIfInBounds j true) a' w' (inv.set hj) hfree' (ready_mono hr (Ne.symm hji)) h3.1 h3.2.1 ?_⟩
        rw [Array.setIfInBounds_comm _ _ hji]
        exact h3.2.2
/-- Pure ones (T: whatever world), or reads. -/
theorem headZ {zs : List Nat} {T : World → Prop} (hsel : Region.noSelect ops = true) (hQ : ∀ c a d v w, R (.panic c) (Act.put a d v) w → R (.panic c) a w) (hT : ∀ w, S w → T w) (hd : List Nat) (hz : (∀ i ∈ hd, ∀ ls, ClosedL ops ls → ls.getD i true = false → ∀ z ∈ zs, z ∉ Region.ready .any ops ls) ∨ ∀ w, T w) (f : Nat) (w : World) (hS : S w) : ∀ (ls : Array Bool) (a : Act), ClosedL ops ls → (∀ i ∈ hd, i ∉ zs) → pureB .any ops hd ls = true →
    wpQuiet P ops T (fun a' => ClosedL ops (markB hd ls) → wpAnyZ P ops R S zs f (markB hd ls) a' w) (hd.map (ops.getD · default)) a → wpAnyZ P ops R S zs (hd.length + f) ls a w := by
  induction hd with
  | nil => intro ls a inv _ hB h; rw [List.length_nil, Nat.zero_add]; exact h inv
  | cons k r ih =>
    intro ls a inv hzn hB h
    simp only [pureB, Bool.and_eq_true] at hB
    have hzk : k ∉ zs := hzn k (by simp)
    have hzr : ∀ i ∈ r, i ∉ zs := fun i e => hzn i (List.mem_cons_of_mem _ e)
    have ih := ih (hz.imp (fun h i hi => h i (List.mem_cons_of_mem _ hi)) id)
    have hkz := hz.imp (fun h => h k (by simp)) id
    have hkr : k ∈ Region.ready .any ops ls := by simpa using hB.1.2
    cases ho : ops[k]? with
    | none => rw [ho] at hB; simp at hB
    | some o =>
      rw [ho] at hB
      have hk : ops.getD k default = o := by simp [Array.getD_eq_getD_getElem?, ho]
      rw [List.map_cons, hk] at h
      have h2 : if Region.wanted o (yielded ops a.tmps) then o.quiet P a T (wpQuiet P ops T (fun a' => ClosedL ops (markB (k :: r) ls) → wpAnyZ P ops R S zs f (markB (k :: r) ls) a' w) (r.map (ops.getD · default)))
        else wpQuiet P ops T (fun a' => ClosedL ops (markB (k :: r) ls) → wpAnyZ P ops R S zs f (markB (k :: r) ls) a' w) (r.map (ops.getD · default)) (a.put o.dst undef) := h
      rw [List.length_cons, Nat.add_right_comm]
      split at h2
      · next hw =>
        obtain ⟨v, hv, hn⟩ := h2
        refine wpAnyZ_first ho (Region.noSelect_spec hsel) (fun c a w => hQ c a _ _ w) hzk hT hkz _ ls a w inv (Region.free_spec ho hB.1.1.2) hkr (.inl ⟨hw, fun w' hw' => ?_⟩) hS (ih _ _ (inv.set hkr) hzr hB.2 hn)
        have h3 := hv w' hw'
        unfold Oper.quietAt at h3
        cases hr : (execOp a.eval o).run P w' with
        | halt x u => rw [hr] at h3; simp only [Oper.quietUpon] at h3
        | ok n u =>
          obtain ⟨x, rfl⟩ := pure_run hB.1.1.1 hr
          rw [hr] at h3
          simp only [Oper.quietUpon] at h3
          rw [h3.1, h3.2]
      · next hw =>
        exact wpAnyZ_first ho (Region.noSelect_spec hsel) (fun c a w => hQ c a _ _ w) hzk hT hkz _ ls a w inv (Region.free_spec ho hB.1.1.2) hkr (.inr ⟨by simpa using hw, rfl⟩) hS (ih _ _ (inv.set hkr) hzr hB.2 h2)
theorem chainZ {zs : List Nat} (f : Nat) (tl : List Nat) : ∀ (ls : Array Bool) (a : Act) (w : World) (E : Act → World → Prop), S w → ClosedL ops ls → (∀ i ∈ tl, i ∉ zs) → forcedB ops tl ls = true → (∀ a w, S w → ClosedL ops (markB tl ls) → E a w → wpAnyZ P ops R S zs f (markB tl ls) a w) →
    wpListK P ops R S E (tl.map (ops.getD · default)) a w → wpAnyZ P ops R S zs (tl.length + f) ls a w := by
  induction tl with
  | nil => intro ls a w E hS inv _ hB hE h; rw [List.length_nil, Nat.zero_add]; exact hE a w hS inv h
  | cons k r ih =>
    intro ls a w E hS inv hzn hB hE h
    simp only [forcedB, Bool.and_eq_true, decide_eq_true_eq] at hB
    rw [List.length_cons, Nat.add_right_comm]
    refine ⟨fun h0 => (by rw [hB.1.1] at h0; cases h0), fun i hi => ?_⟩
    have hi' := hi
    rw [hB.1.1] at hi
    have e : i = k := by simpa using hi
    subst e
    obtain ⟨o, ho⟩ := Option.isSome_iff_exists.1 hB.1.2
    have hk : ops.getD i default = o := by simp [Array.getD_eq_getD_getElem?, ho]
    rw [List.map_cons, hk] at h
    exact wpOp_of_one ho (h _ (fun a' w' hs h' => by rw [if_neg (hzn i (by simp))]; exact ⟨hs, ih _ a' w' E hs (inv.set hi') (fun j hj => hzn j (List.mem_cons_of_mem _ hj)) hB.2 hE h'⟩))
def wpFin (P : Program) (ops : Array Oper) (R : Exit → Act → World → Prop) (S : World → Prop) (zs : List Nat) : List (List Nat × List Nat) → Act → World → Prop
  | [], a, w => wpList P ops R (zs.map (ops.getD · default)) a w
  | (hd, tl) :: ps, a, w => wpQuiet P ops S (fun a' => wpListK P ops R S (wpFin P ops R S zs ps) (tl.map (ops.getD · default)) a' w) (hd.map (ops.getD · default)) a
def finB (ops : Array Oper) (zs : List Nat) : List (List Nat × List Nat) → Array Bool → Bool
  | [], ls => tailB .any ops zs ls && (Region.ready .any ops ls).all (zs.contains ·)
  | (hd, tl) :: ps, ls => (hd ++ tl).all (fun i => !zs.contains i) && pureB .any ops hd ls && forcedB ops tl (markB hd ls) && finB ops zs ps (markB tl (markB hd ls))
theorem not_mem_of {zs l : List Nat} (h : l.all (fun i => !zs.contains i) = true) : ∀ i ∈ l, i ∉ zs := fun i hi he => by
  have := List.all_eq_true.1 h i hi
  rw [List.contains_iff_mem.2 he] at this
  cases this
theorem any_fin {zs : List Nat} (hsel : Region.noSelect ops = true) (hQ : ∀ c a d v w, R (.panic c) (Act.put a d v) w → R (.panic c) a w)
    (ps : List (List Nat × List Nat)) (hz : ∀ p ∈ ps, ∀ i ∈ p.1, ∀ ls, ClosedL ops ls → ls.getD i true = false → ∀ z ∈ zs, z ∉ Region.ready .any ops ls) : ∀ (ls : Array Bool) (a : Act) (w : World), S w → ClosedL ops ls → finB ops zs ps ls = true →
    wpFin P ops R S zs ps a w → wpAnyZ P ops R S zs (planN ps + zs.length) ls a w := by
  induction ps with
  | nil =>
    intro ls a w hS inv hB h
    simp only [finB, Bool.and_eq_true] at hB
    have h1 := wpAny_of_held _ _ _ _ (any_tail zs ls a w hB.1 h)
    have e : planN [] + zs.length = zs.length := by simp [planN]
    rw [e]
    generalize zs.length = f at h1
    cases f with
    | zero => exact h1
    | succ f =>
      refine ⟨h1.1, fun i hi => wpOp_mono (fun a' w' h' => ?_) (h1.2 i hi)⟩
      rw [if_pos (by simpa using List.all_eq_true.1 hB.2 i hi)]
      exact h'
  | cons p ps ih =>
    obtain ⟨hd, tl⟩ := p
    intro ls a w hS inv hB h
    simp only [finB, Bool.and_eq_true] at hB
    have hn := not_mem_of hB.1.1.1
    have e : planN ((hd, tl) :: ps) + zs.length = hd.length + (tl.length + (planN ps + zs.length)) := by simp [planN]; omega
    rw [e]
    refine headZ hsel hQ (T := S) (fun _ h => h) hd (.inl (hz (hd, tl) (by simp))) _ w hS ls a inv (fun i hi => hn i (by simp [hi])) hB.1.1.2 ?_
    exact wpQuiet_mono (fun a' h' inv' => chainZ _ tl _ a' w _ hS inv' (fun i hi => hn i (by simp [hi])) hB.1.2 (fun a w hs inv2 he => ih (fun p hp => hz p (List.mem_cons_of_mem _ hp)) _ a w hs inv2 hB.2 he) h') _ _ h
end
/-- p0: pure operations; then stages (reads, and one by one what else there is); zs: the end, for whose members all that is read must wait (it is not so for those of p0). -/
theorem wp_fin {P : Program} {id : Nat} {R : Exit → Act → World → Prop} {a : Act} {w : World} {l : List Oper} (p0 : List Nat) (ps : List (List Nat × List Nat)) (zs : List Nat) (hm : P.follows .mixedOrders = true)
    (hB : (Region.noSelect l.toArray && pureB .any l.toArray p0 (Array.replicate l.length false) && p0.all (fun i => !zs.contains i) && finB l.toArray zs ps (markB p0 (Array.replicate l.length false)) && decide (p0.length + (planN ps + zs.length) = l.length)
      && ps.all (fun p => p.1.all fun i => decide (i < l.length)) && zs.all (fun z => decide (z < l.length) && sinkL l.toArray ((List.range l.length).filter fun i => !p0.contains i && decide (i < z)) z && ps.all fun p => p.1.all fun i => decide (i < z) && !p0.contains i)) = true)
    (hQ : ∀ c a d v w, R (.panic c) (Act.put a d v) w → R (.panic c) a w)
    (h : wpQuiet P l.toArray (fun _ => True) (fun a' => wpFin P l.toArray R (fun w' => ∃ m : QW w, w' = m.val) zs ps a' w.drew) (p0.map (l.toArray.getD · default)) a) : (Code.region id l.toArray true).wp P R a w := by
  simp only [Bool.and_eq_true, decide_eq_true_eq] at hB
  obtain ⟨⟨⟨⟨⟨⟨h1, h2⟩, h3⟩, h4⟩, h5⟩, h6⟩, h7⟩ := hB
  have hz : ∀ p ∈ ps, ∀ i ∈ p.1, ∀ ls, ClosedL l.toArray ls → ls.getD i true = false → ∀ z ∈ zs, z ∉ Region.ready .any l.toArray ls := fun p hp i hi ls inv hun z hzz hr => by
    have h8 := List.all_eq_true.1 h7 z hzz
    simp only [Bool.and_eq_true, decide_eq_true_eq] at h8
    have h9 := List.all_eq_true.1 (List.all_eq_true.1 h8.2 p hp) i hi
    simp only [Bool.and_eq_true, decide_eq_true_eq] at h9
    have hb : ∀ j ∈ z :: ((List.range l.length).filter fun i => !p0.contains i && decide (i < z)), j < l.length := fun j hj => by
      rcases List.mem_cons.1 hj with e | e
      · omega
      · exact List.mem_range.1 (List.mem_filter.1 e).1
    refine sink_all (N := l.length) hb h8.1.2 (fun j hj => by have := hb j hj; simpa using this) inv hr _ i rfl (List.mem_filter.2 ⟨List.mem_range.2 (by omega), ?_⟩) hun
    simp only [Bool.and_eq_true, decide_eq_true_eq]
    exact ⟨h9.2, h9.1⟩
  have inv0 : ClosedL l.toArray (Array.replicate l.length false) := ⟨by simp, fun j oj hj hl => by
      rw [Array.getD_eq_getD_getElem?] at hl
      by_cases hjl : j < l.length
      · simp [hjl] at hl
      · simp [hjl] at hl⟩
  have hS : (fun w' => ∃ m : QW w, w' = m.val) w.drew := ⟨⟨w.drew, (Q.refl w).drew⟩, rfl⟩
  refine wp_region_any hm (wpAny_of_Z (S := fun w' => ∃ m : QW w, w' = m.val) (zs := zs) _ _ _ _ ?_)
  have := headZ (zs := zs) (S := fun w' => ∃ m : QW w, w' = m.val) (T := fun _ => True) h1 hQ (fun _ _ => trivial) p0 (.inr fun _ => trivial) (planN ps + zs.length) w.drew hS _ a inv0 (not_mem_of h3) h2
    (wpQuiet_mono (fun a' h' inv' => any_fin h1 hQ ps hz _ a' w.drew hS inv' h4 h') _ _ h)
  rw [h5] at this
  exact this
end Go.Proofs.YtlalpnnnnmcejaaGreatDoor
