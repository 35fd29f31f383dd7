/- Texts of this proof, laid into one: VaE, Sjc, Sjp. -/
import Derived.Test.YtmmoenbmgcplkaaGreatDoorMy21
set_option linter.unusedVariables false
set_option linter.unusedSimpArgs false
namespace Go.Proofs.YtmmoenbmgcplkaaGreatDoor
open Go Go.RowKit
def SeenT (s : List UInt8) (k q : Nat) : Prop := (∀ j, j < k → badC (gB s j) = false) ∧ ((q = s.length ∧ ∀ j, j < k → gB s j ≠ 63) ∨ (q < k ∧ gB s q = 63 ∧ ∀ j, j < q → gB s j ≠ 63))
theorem SeenT.at {s : List UInt8} {q : Nat} (h : SeenT s s.length q) : s.findIdx? badC = none ∧ AtC 63 s q := by
  refine ⟨find_none s h.1, ?_⟩
  rcases h.2 with ⟨rfl, h2⟩ | ⟨h1, h2, h3⟩
  · exact ⟨Nat.le_refl _, h2, fun h => by omega⟩
  · exact ⟨by omega, h3, fun _ => h2⟩
theorem SeenT.le {s : List UInt8} {k q : Nat} (h : SeenT s k q) (hk : k ≤ s.length) : q ≤ s.length := by
  rcases h.2 with ⟨rfl, _⟩ | ⟨h1, _⟩ <;> omega
theorem SeenT.next {s : List UInt8} {k q : Nat} (h : SeenT s k q) (hk : k < s.length) (hb : badC (gB s k) = false) (hn : gB s k ≠ 63 ∨ q ≠ s.length) : SeenT s (k + 1) q := by
  refine ⟨fun j hj => ?_, ?_⟩
  · by_cases e : j = k
    · subst e; exact hb
    · exact h.1 j (by omega)
  · rcases h.2 with ⟨h1, h2⟩ | ⟨h1, h2, h3⟩
    · refine .inl ⟨h1, fun j hj => ?_⟩
      by_cases e : j = k
      · subst e; rcases hn with h | h
        · exact h
        · exact absurd h1 h
      · exact h2 j (by omega)
    · exact .inr ⟨by omega, h2, h3⟩
theorem SeenT.first {s : List UInt8} {k : Nat} (h : SeenT s k s.length) (hk : k < s.length) (hb : badC (gB s k) = false) (hc : gB s k = 63) : SeenT s (k + 1) k := by
  refine ⟨fun j hj => ?_, .inr ⟨by omega, hc, fun j hj => ?_⟩⟩
  · by_cases e : j = k
    · subst e; exact hb
    · exact h.1 j (by omega)
  · rcases h.2 with ⟨_, h2⟩ | ⟨h1, _⟩
    · exact h2 j hj
    · omega
theorem sub_zero (s : List UInt8) (q : Nat) : sub s 0 q = s.take q := by simp [sub]
set_option maxRecDepth 100000 in
set_option maxHeartbeats 4000000 in
theorem RTarget_any (s : List UInt8) (w : World) (hl : s.length ≤ 100000000) :
    Calls Tryz.prog 36 #[.string ⟨s.toArray⟩] w (TgtPost s w) := by
  by_cases hh : s.head? = some 47
  case neg =>
    have HT : Hid (tgtL s = ([], [], 53, 0)) := Lib.hid (by unfold tgtL; rw [if_neg hh])
    by_cases hz : s.length = 0
    · have hE : s.isEmpty = true := by simpa using List.eq_nil_of_length_eq_zero hz
      clear hh hz
      go_enter Tryz.func36, Tryz.ntmps36
      go_wp2_with fail
      ((try simp only [Exit.inBlock, Exit.then]); refine bodyPost_ret (results_tmp4 rfl _ _ _) rfl ?_)
      unfold TgtPost
      rw [HT.out]
      exact ⟨.slice none 0 0, rfl, OwnU.nil _ _, Q.refl _⟩
    · have hE : s.isEmpty = false := by
        rcases s with _ | ⟨x, r⟩
        · exact absurd rfl hz
        · rfl
      have h0 : ¬ ((gB s 0).toNat : Int) = 47 := by
        intro h
        have : gB s 0 = 47 := UInt8.toNat_inj.1 (show (gB s 0).toNat = 47 by omega)
        apply hh
        rcases s with _ | ⟨x, r⟩
        · exact absurd rfl hz
        · simp [gB] at this; simp [this]
      have h0e : (((gB s 0).toNat : Int) == 47) = false := by simpa using h0
      have hzl : 0 < s.length := by omega
      clear hh
      go_enter Tryz.func36, Tryz.ntmps36
      go_wp2_with fail
      ((try simp only [Exit.inBlock, Exit.then]); refine bodyPost_ret (results_tmp4 rfl _ _ _) rfl ?_)
      unfold TgtPost
      rw [HT.out]
      exact ⟨.slice none 0 0, rfl, OwnU.nil _ _, Q.refl _⟩
  case pos =>
    have hE : s.isEmpty = false := by
      rcases s with _ | ⟨x, r⟩
      · simp at hh
      · rfl
    have hzl : 0 < s.length := by
      rcases s with _ | ⟨x, r⟩
      · simp at hh
      · simp
    have h0 : ((gB s 0).toNat : Int) = 47 := by
      rcases s with _ | ⟨x, r⟩
      · simp at hh
      · simp at hh; subst hh; rfl
    have h0e : (((gB s 0).toNat : Int) == 47) = true := by simpa using h0
    have HH := Lib.hid hh
    clear hh h0
    go_enter Tryz.func36, Tryz.ntmps36
    go_wp2_with fail
    clear h0e hE
    go_loopw [6, 7] (fun qv i wr => ∃ k q : Nat, k ≤ s.length ∧ qv = .int .i64 (q : Int) ∧ i = .int .i64 (k : Int) ∧ q ≤ s.length ∧ Hid (SeenT s k q) ∧ wr = w) (fun _ i _ => s.length - (intOf i).toNat)
    case atStart => exact ⟨0, s.length, by omega, rfl, rfl, by omega, Lib.hid ⟨fun j h => by omega, .inl ⟨rfl, fun j h => by omega⟩⟩, rfl⟩
    case round =>
      obtain ⟨k, q, hk, rfl, rfl, hq, HS, rfl⟩ := hrel
      by_cases hlt : k < s.length
      · have g1 : decide (k < s.length) = true := by simpa using hlt
        rcases hb : badC (gB s k) with _ | _
        · obtain ⟨b, hgb⟩ : ∃ b, gB s k = b := ⟨_, rfl⟩
          have HB := Lib.hid hb
          have HGB := Lib.hid hgb
          unfold badC at hb
          rw [hgb] at hb
          simp only [Bool.or_eq_false_iff, decide_eq_false_iff_not, beq_eq_false_iff_ne] at hb
          obtain ⟨⟨b1, b2⟩, b3⟩ := hb
          have b1' : ¬ ((b.toNat : Int) < 33) := by omega
          have b2' : ¬ ((126 : Int) < (b.toNat : Int)) := by omega
          have b3' : ¬ (b.toNat : Int) = 35 := fun h => b3 (UInt8.toNat_inj.mp (show b.toNat = 35 by omega))
          have b3e : ((b.toNat : Int) == 35) = false := by simpa using b3'
          by_cases hc : b = 63
          · have c1 : ((b.toNat : Int) == 63) = true := by rw [hc]; rfl
            by_cases hqe : q = s.length
            · have HN : Hid (SeenT s (k + 1) k) := Lib.hid (by have h := HS.out; rw [hqe] at h; exact h.first hlt HB.out (by rw [HGB.out, hc]))
              clear hc b1 b2 b3 b3'
              subst hqe
              go_wp2_with fail
              go_roundw
              case rel => exact ⟨k + 1, k, by omega, rfl, by go_num, by omega, HN, trivial⟩
              case measure => simp [intOf]; omega
            · have HN : Hid (SeenT s (k + 1) q) := Lib.hid (HS.out.next hlt HB.out (.inr hqe))
              have hq1 : (q == s.length) = false := by simpa using hqe
              have hq2 : ((q : Int) == (s.length : Int)) = false := by rw [beq_eq_false_iff_ne]; omega
              have hq3 : ¬ (q : Int) = (s.length : Int) := by omega
              clear hc b1 b2 b3 b3'
              go_wp2_with fail
              go_roundw
              case rel => exact ⟨k + 1, q, by omega, rfl, by go_num, by omega, HN, trivial⟩
              case measure => simp [intOf]; omega
          · have c1 : ((b.toNat : Int) == 63) = false := by
              rw [beq_eq_false_iff_ne]; intro h; exact hc (UInt8.toNat_inj.1 (show b.toNat = 63 by omega))
            have c2 : ¬ (b.toNat : Int) = 63 := by simpa using c1
            have HN : Hid (SeenT s (k + 1) q) := Lib.hid (HS.out.next hlt HB.out (.inl (by rw [HGB.out]; exact hc)))
            clear hc b1 b2 b3
            go_wp2_with fail
            go_roundw
            case rel => exact ⟨k + 1, q, by omega, rfl, by go_num, by omega, HN, trivial⟩
            case measure => simp [intOf]; omega
        · have HF : Hid (tgtL s = ([], [], 53, (k : Int))) := Lib.hid (by unfold tgtL; rw [if_pos HH.out, find_take s k hlt HS.out.1 hb])
          obtain ⟨b, hgb⟩ : ∃ b, gB s k = b := ⟨_, rfl⟩
          rw [hgb] at hb
          have hc : (b.toNat : Int) < 33 ∨ (¬ (b.toNat : Int) < 33 ∧ (126 : Int) < (b.toNat : Int)) ∨ (¬ (b.toNat : Int) < 33 ∧ ¬ (126 : Int) < (b.toNat : Int) ∧ ((b.toNat : Int) == 35) = true) := by
            unfold badC at hb
            simp only [Bool.or_eq_true, decide_eq_true_eq, beq_iff_eq] at hb
            rcases hb with (h | h) | h
            · left; omega
            · right; left; omega
            · right; right; subst h; decide
          clear hb
          rcases hc with hc | ⟨h1, hc⟩ | ⟨h1, h2, hc⟩
          all_goals
            go_wp2_with fail
            all_goals
              ((try simp only [Exit.inBlock, Exit.then]); refine bodyPost_ret (results_tmp4 rfl _ _ _) rfl ?_)
              unfold TgtPost
              rw [HF.out]
              exact ⟨.slice none 0 0, rfl, OwnU.nil _ _, Q.refl _⟩
      · obtain rfl : k = s.length := by omega
        have HAt := Lib.hid HS.out.at
        clear HS hlt hk
        have hlen := length_sub s 0 q
        have hrl : (sub s 0 q).length ≤ 100000000 := by omega
        have HD := Lib.hid (fun W => RDecode_any (sub s 0 q) W hrl)
        clear hlen hrl
        rcases hd : decR (sub s 0 q) with ⟨pt, _ | kb⟩
        · have hrd : rdecOut (sub s 0 q) = (pt, -1) := by unfold rdecOut; rw [hd]
          rw [hrd] at HD
          have HR : Hid (tgtL s = match remT s (q + 1) [] with | (some b, _) => ([], [], 52, (b : Int)) | (none, ps) => (pt, ps, 0, 0)) := Lib.hid (by
            have h := rtgt_rest HH.out HAt.out.1 HAt.out.2 (by rw [← sub_zero, hd])
            rw [← sub_zero, hd] at h; exact h)
          clear hrd hd
          go_wp2_with fail
          refine (HD.out _).mono ?_
          rintro e W2 ⟨rfl, hq2⟩
          have HQ2 := Lib.hid hq2
          clear hq2 HD
          go_wp2_with fail
          clear HAt
          go_loopw [10, 11] (fun v i wr => ∃ (a : Nat) (out : List PairD), a ≤ s.length + 1 ∧ i = .int .i64 (a : Int) ∧ Hid (OwnU W2 wr v out) ∧ Hid (Q W2 wr) ∧ Hid (remT s a out = remT s (q + 1) []) ∧ Hid (out.length ≤ a)) (fun _ i _ => s.length + 2 - (intOf i).toNat)
          case atStart => exact ⟨q + 1, [], by omega, by go_num, Lib.hid (OwnU.nil _ _), Lib.hid (Q.refl _), Lib.hid rfl, Lib.hid (by simp)⟩
          case round =>
            clear hq
            obtain ⟨a, out, ha, rfl, HO, HQ, HM, HL⟩ := hrel
            by_cases hle : a ≤ s.length
            · rename World => wa
              have HAN : Hid (∀ j, a ≤ j → j < a → gB s j ≠ 38) := Lib.hid (fun j h1 h2 => by omega)
              have HEN : Hid (∀ j, a ≤ j → j < a → gB s j ≠ 61) := Lib.hid (fun j h1 h2 => by omega)
              go_upto_block 2 with (fail)
              go_loop [12] (fun i => ∃ e : Nat, a ≤ e ∧ e ≤ s.length ∧ i = .int .i64 (e : Int) ∧ Hid (∀ j, a ≤ j → j < e → gB s j ≠ 38)) (fun i => s.length - (intOf i).toNat)
              case atStart => exact ⟨a, by omega, by omega, rfl, HAN⟩
              case round =>
                clear HAN
                obtain ⟨e, hae, hes, rfl, HA⟩ := hrel
                by_cases hm : e < s.length ∧ gB s e ≠ 38
                · obtain ⟨hm1, hm2⟩ := hm
                  have c1 : ¬ ((gB s e).toNat : Int) = 38 := fun h => hm2 (UInt8.toNat_inj.1 (show (gB s e).toNat = 38 by omega))
                  have c2 : (((gB s e).toNat : Int) == 38) = false := by simpa using c1
                  have HA2 : Hid (∀ j, a ≤ j → j < e + 1 → gB s j ≠ 38) := Lib.hid (fun j h1 h2 => by
                    by_cases ej : j = e
                    · subst ej; exact hm2
                    · exact HA.out j h1 (by omega))
                  clear hm2 HO HQ HM HL HEN
                  go_wp2_with fail
                  go_round
                  case rel => exact ⟨e + 1, by omega, by omega, by go_num, HA2⟩
                  case measure => simp [intOf]; omega
                · have HE38 : Hid (e < s.length → gB s e = 38) := Lib.hid (fun h => Decidable.byContradiction fun h2 => hm ⟨h, h2⟩)
                  have hcs : ¬ (e : Int) < (s.length : Int) ∨ (e < s.length ∧ (((gB s e).toNat : Int) == 38) = true) := by
                    by_cases h : e < s.length
                    · right; exact ⟨h, by rw [HE38.out h]; rfl⟩
                    · left; omega
                  clear hm
                  rcases hcs with hge | ⟨hlt2, c38⟩
                  all_goals
                    go_upto_block 2 with (fail)
                    try clear c38
                    go_loop [13] (fun i => ∃ k : Nat, a ≤ k ∧ k ≤ e ∧ i = .int .i64 (k : Int) ∧ Hid (∀ j, a ≤ j → j < k → gB s j ≠ 61)) (fun i => e - (intOf i).toNat)
                    case atStart => exact ⟨a, by omega, by omega, rfl, HEN⟩
                    case round =>
                      clear HEN
                      obtain ⟨k, hak, hke, rfl, HB⟩ := hrel
                      by_cases hm : k < e ∧ gB s k ≠ 61
                      · obtain ⟨hm1, hm2⟩ := hm
                        have hks : k < s.length := by omega
                        have c1 : ¬ ((gB s k).toNat : Int) = 61 := fun h => hm2 (UInt8.toNat_inj.1 (show (gB s k).toNat = 61 by omega))
                        have c2 : (((gB s k).toNat : Int) == 61) = false := by simpa using c1
                        have HB2 : Hid (∀ j, a ≤ j → j < k + 1 → gB s j ≠ 61) := Lib.hid (fun j h1 h2 => by
                          by_cases ej : j = k
                          · subst ej; exact hm2
                          · exact HB.out j h1 (by omega))
                        clear hm2 HO HQ HM HL
                        go_wp2_with fail
                        go_round
                        case rel => exact ⟨k + 1, by omega, by omega, by go_num, HB2⟩
                        case measure => simp [intOf]; omega
                      · have HK61 : Hid (k < e → gB s k = 61) := Lib.hid (fun h => Decidable.byContradiction fun h2 => hm ⟨h, h2⟩)
                        have hcs2 : ¬ (k : Int) < (e : Int) ∨ (k < e ∧ k < s.length ∧ (((gB s k).toNat : Int) == 61) = true) := by
                          by_cases h : k < e
                          · right; exact ⟨h, by omega, by rw [HK61.out h]; rfl⟩
                          · left; omega
                        clear hm
                        by_cases hae2 : a < e
                        · have HP := Lib.hid (rem_piece (out := out) hae2 hak hke hes HA.out HE38.out HB.out HK61.out)
                          have hln : (sub s a k).length ≤ 100000000 := by have := length_sub s a k; omega
                          have HD := Lib.hid (fun W => RDecode_any (sub s a k) W hln)
                          clear hln
                          rcases hd : decR (sub s a k) with ⟨nm, _ | kb⟩
                          · have hrd : rdecOut (sub s a k) = (nm, -1) := by unfold rdecOut; rw [hd]
                            rw [hrd] at HD
                            rw [hd] at HP
                            clear hrd hd
                            by_cases hke2 : k < e
                            · have hln : (sub s (k + 1) e).length ≤ 100000000 := by have := length_sub s (k + 1) e; omega
                              have HD2 := Lib.hid (fun W => RDecode_any (sub s (k + 1) e) W hln)
                              clear hln
                              simp only [if_pos hke2] at HP
                              rcases hcs2 with hge2 | ⟨_, hks, c61⟩
                              · omega
                              go_upto_region 23 with (fail)
                              clear c61
                              rcases hd2 : decR (sub s (k + 1) e) with ⟨vl, _ | kb⟩
                              · have hrd : rdecOut (sub s (k + 1) e) = (vl, -1) := by unfold rdecOut; rw [hd2]
                                rw [hrd] at HD2
                                rw [hd2] at HP
                                simp only at HP
                                clear hrd hd2
                                go_wp2_with fail
                                refine (HD.out _).mono ?_
                                rintro e' W3 ⟨rfl, hq3⟩
                                have HO3 := Lib.hid (HO.out.q hq3)
                                have HQ3 := Lib.hid (HQ.out.trans hq3)
                                clear hq3 HO HQ HD
                                go_wp2_with fail
                                refine (HD2.out _).mono ?_
                                rintro e' W4 ⟨rfl, hq4⟩
                                obtain ⟨N7, hN7⟩ : ∃ N, W3.heap.size = N := ⟨_, rfl⟩
                                have hpb : PB W4 N7 (nm, []) := by rw [← hN7]; exact hq4.block (heap_alloc_new W3 _)
                                have hq34 : Q W3 W4 := ((Q.refl W3).alloc _).trans hq4
                                have HO4 := Lib.hid (HO3.out.q hq34)
                                have HQ4 := Lib.hid (HQ3.out.trans hq34)
                                have hNE : ∀ g, u10.ownBlock = some g → g ≠ N7 := fun g hg ee => by have h1 := (HO3.out.block hg).2.1; omega
                                have HNE := Lib.hid hNE
                                have hW2N : W2.heap.size ≤ N7 := by rw [← hN7]; exact HQ3.out.size
                                have HPB4 := Lib.hid hpb
                                have cz := hpb.c1
                                have fz := hpb.f (i := 1)
                                rw [hN7]
                                clear hq4 hq34 hpb hNE hN7 HO3 HQ3 HD2
                                go_upto_region 33 with (fail)
                                obtain ⟨WY, hWY⟩ : ∃ W, W4.setCell ⟨N7, 1, none⟩ (.string ⟨vl.toArray⟩) = W := ⟨_, rfl⟩
                                have HPB : Hid (PB WY N7 (nm, vl)) := Lib.hid (by rw [← hWY]; exact HPB4.out.set1)
                                have HOX : Hid (OwnU W2 WY u10 out) := Lib.hid (by
                                  rw [← hWY]
                                  exact HO4.out.g (gb_set (b := W4) (g := N7) ⟨rfl, rfl, rfl, Nat.le_refl _, fun _ _ _ => rfl⟩ 1 _) (fun g hg ee => HNE.out g hg (by injection ee with ee; exact ee.symm)))
                                have HQX : Hid (Q W2 WY) := Lib.hid (by rw [← hWY]; exact HQ4.out.setNew hW2N _)
                                rw [hWY]
                                clear hWY cz fz HO4 HQ4 HPB4
                                iterate 4 go_step
                                refine wpList_load_row rfl 37 (.tmp 16) rfl N7 rfl _ _ _ _ HPB.out Tryz.underlying37 rfl infoP ?_
                                simp only [pairL, Act.put, List.setIfInBounds_toArray, List.set_cons_succ, List.set_cons_zero]
                                iterate 3 go_step
                                refine wpList_append_u rfl (.tmp 141) (.tmp 143) rfl W2 WY u10 out (nm, vl) rfl HOX.out rfl HQX.out.size (by have := HL.out; omega) ?_
                                intro v9 w9 ho9 hg9
                                have hq9 : Q W2 w9 := gb_q_own hg9 HQX.out (fun b hb => (HOX.out.block hb).1)
                                have HO9 := Lib.hid ho9
                                have HQ9 := Lib.hid hq9
                                clear ho9 hg9 hq9 HOX HQX HPB
                                go_wp2_with fail
                                go_roundw
                                case rel => exact ⟨e + 1, out ++ [(nm, vl)], by omega, by go_num, HO9, HQ9, Lib.hid (by rw [← HM.out, HP.out]), Lib.hid (by have := HL.out; rw [List.length_append]; simp; omega)⟩
                                case measure => simp [intOf]; omega
                              · have hkb := decR_lt (l := sub s (k + 1) e) (k := kb) (by rw [hd2])
                                have hlk := length_sub s (k + 1) e
                                have hkb2 : kb ≤ 100000000 := by omega
                                have hrd : rdecOut (sub s (k + 1) e) = ([], (kb : Int)) := by unfold rdecOut; rw [hd2]
                                rw [hrd] at HD2
                                rw [hd2] at HP
                                simp only at HP
                                have HF : Hid (tgtL s = ([], [], 52, (k : Int) + 1 + (kb : Int))) := Lib.hid (by rw [HR.out, ← HM.out, HP.out]; simp)
                                clear hrd hd2 hkb hlk
                                go_wp2_with fail
                                refine (HD.out _).mono ?_
                                rintro e' W3 ⟨rfl, hq3⟩
                                have HQ3a := Lib.hid (HQ.out.trans hq3)
                                clear hq3 HO HQ HD
                                go_wp2_with fail
                                refine (HD2.out _).mono ?_
                                rintro e' W4 ⟨rfl, hq4⟩
                                have HQ3 := Lib.hid (HQ3a.out.trans (((Q.refl W3).alloc _).trans hq4))
                                clear hq4
                                go_wp2_with fail
                                ((try simp only [Exit.inBlock, Exit.then]); refine bodyPost_ret (results_tmp4 rfl _ _ _) rfl ?_)
                                unfold TgtPost
                                rw [HF.out]
                                exact ⟨.slice none 0 0, rfl, OwnU.nil _ _, HQ2.out.trans HQ3.out⟩
                            · simp only [if_neg hke2] at HP
                              rcases hcs2 with hge2 | ⟨hc2, _⟩
                              case inr => omega
                              go_upto_region 23 with (fail)
                              go_wp2_with fail
                              refine (HD.out _).mono ?_
                              rintro e' W3 ⟨rfl, hq3⟩
                              have HO3 := Lib.hid (HO.out.q hq3)
                              have HQ3 := Lib.hid (HQ.out.trans hq3)
                              clear hq3 HO HQ HD
                              go_upto_region 33 with (fail)
                              obtain ⟨N7, hN7⟩ : ∃ N, W3.heap.size = N := ⟨_, rfl⟩
                              obtain ⟨WY, hWY⟩ : ∃ W, W3.alloc (.cells #[.string ⟨nm.toArray⟩, .string ⟨#[]⟩] 37) = W := ⟨_, rfl⟩
                              have HPB : Hid (PB WY N7 (nm, [])) := Lib.hid (by rw [← hWY, ← hN7]; exact heap_alloc_new W3 _)
                              have hqY : Q W3 WY := by rw [← hWY]; exact (Q.refl W3).alloc _
                              have HOX : Hid (OwnU W2 WY u10 out) := Lib.hid (HO3.out.q hqY)
                              have HQX : Hid (Q W2 WY) := Lib.hid (HQ3.out.trans hqY)
                              rw [hN7, hWY]
                              clear hWY hN7 hqY HO3 HQ3
                              iterate 4 go_step
                              refine wpList_load_row rfl 37 (.tmp 16) rfl N7 rfl _ _ _ _ HPB.out Tryz.underlying37 rfl infoP ?_
                              simp only [pairL, Act.put, List.setIfInBounds_toArray, List.set_cons_succ, List.set_cons_zero]
                              iterate 3 go_step
                              refine wpList_append_u rfl (.tmp 141) (.tmp 143) rfl W2 WY u10 out (nm, []) rfl HOX.out rfl HQX.out.size (by have := HL.out; omega) ?_
                              intro v9 w9 ho9 hg9
                              have hq9 : Q W2 w9 := gb_q_own hg9 HQX.out (fun b hb => (HOX.out.block hb).1)
                              have HO9 := Lib.hid ho9
                              have HQ9 := Lib.hid hq9
                              clear ho9 hg9 hq9 HOX HQX HPB
                              go_wp2_with fail
                              go_roundw
                              case rel => exact ⟨e + 1, out ++ [(nm, [])], by omega, by go_num, HO9, HQ9, Lib.hid (by rw [← HM.out, HP.out]), Lib.hid (by have := HL.out; rw [List.length_append]; simp; omega)⟩
                              case measure => simp [intOf]; omega
                          · have hkb := decR_lt (l := sub s a k) (k := kb) (by rw [hd])
                            have hlk := length_sub s a k
                            have hkb2 : kb ≤ 100000000 := by omega
                            have hrd : rdecOut (sub s a k) = ([], (kb : Int)) := by unfold rdecOut; rw [hd]
                            rw [hrd] at HD
                            rw [hd] at HP
                            simp only at HP
                            have HF : Hid (tgtL s = ([], [], 52, (a : Int) + (kb : Int))) := Lib.hid (by rw [HR.out, ← HM.out, HP.out]; simp)
                            clear hrd hd hkb hlk
                            rcases hcs2 with hge2 | ⟨_, hks, c61⟩
                            all_goals
                              go_upto_region 23 with (fail)
                              try clear c61
                              go_wp2_with fail
                              refine (HD.out _).mono ?_
                              rintro e' W3 ⟨rfl, hq3⟩
                              have HQ3 := Lib.hid (HQ.out.trans hq3)
                              clear hq3 HO HQ HD
                              go_wp2_with fail
                              ((try simp only [Exit.inBlock, Exit.then]); refine bodyPost_ret (results_tmp4 rfl _ _ _) rfl ?_)
                              unfold TgtPost
                              rw [HF.out]
                              exact ⟨.slice none 0 0, rfl, OwnU.nil _ _, HQ2.out.trans HQ3.out⟩
                        · obtain rfl : e = a := by omega
                          have HM2 : Hid (remT s (e + 1) out = remT s (q + 1) []) := Lib.hid (by rw [← rem_empty hes HE38.out]; exact HM.out)
                          rcases hcs2 with hge2 | ⟨hc2, _⟩
                          case inr => omega
                          go_wp2_with fail
                          go_roundw
                          case rel => exact ⟨e + 1, out, by omega, by go_num, HO, HQ, HM2, Lib.hid (by have := HL.out; omega)⟩
                          case measure => simp [intOf]; omega
            · obtain rfl : a = s.length + 1 := by omega
              have HE : Hid (remT s (q + 1) [] = (none, out)) := Lib.hid (by rw [← HM.out]; unfold remT; rw [if_neg hle])
              have hge : ¬ ((s.length : Int) + 1 ≤ (s.length : Int)) := by omega
              clear HM HL ha hle
              go_wp2_with fail
              ((try simp only [Exit.inBlock, Exit.then]); refine bodyPost_ret (results_tmp4 rfl _ _ _) rfl ?_)
              unfold TgtPost
              rw [HR.out, HE.out]
              refine ⟨_, rfl, ?_, HQ2.out.trans HQ.out⟩
              refine ⟨HO.out.1, ?_⟩
              rcases HO.out.2 with h1 | ⟨g, cap, cur, hv, h1, h2⟩
              · exact .inl h1
              · exact .inr ⟨g, cap, cur, hv, by have := HQ2.out.size; omega, h2⟩
        · have hrd : rdecOut (sub s 0 q) = ([], (kb : Int)) := by unfold rdecOut; rw [hd]
          rw [hrd] at HD
          have HR : Hid (tgtL s = ([], [], 52, (kb : Int))) := Lib.hid (rtgt_path HH.out HAt.out.1 HAt.out.2 (by rw [← sub_zero, hd]))
          clear hrd hd
          go_wp2_with fail
          refine (HD.out _).mono ?_
          rintro e W2 ⟨rfl, hq2⟩
          have HQ2 := Lib.hid hq2
          clear hq2 HD
          go_wp2_with fail
          ((try simp only [Exit.inBlock, Exit.then]); refine bodyPost_ret (results_tmp4 rfl _ _ _) rfl ?_)
          unfold TgtPost
          rw [HR.out]
          exact ⟨.slice none 0 0, rfl, OwnU.nil _ _, HQ2.out⟩
end Go.Proofs.YtmmoenbmgcplkaaGreatDoor
set_option linter.unusedVariables false
set_option linter.unusedSimpArgs false
namespace Go.Proofs.YtmmoenbmgcplkaaGreatDoor
open Go Go.RowKit
def endL (ls : List (List UInt8)) : List UInt8 := ls.flatMap fun l => l ++ [10]
theorem endL_snoc (ls : List (List UInt8)) (l : List UInt8) : endL (ls ++ [l]) = endL ls ++ (l ++ [10]) := by unfold endL; rw [List.flatMap_append]; simp
theorem endL_app (ls ms : List (List UInt8)) : endL (ls ++ ms) = endL ls ++ endL ms := by unfold endL; rw [List.flatMap_append]
theorem join_end (ls : List (List UInt8)) (l : List UInt8) : Lib.join (ls ++ [l]) [10] = endL ls ++ l := by
  induction ls with
  | nil => rw [List.nil_append, join_one]; rfl
  | cons a r ih =>
    rcases hr : r ++ [l] with _ | ⟨b, t⟩
    · simp at hr
    · rw [List.cons_append, hr, join_cons, ← hr, ih]
      unfold endL
      simp
theorem endL_len (ls : List (List UInt8)) : (endL ls).length = sumU ls := by
  unfold endL sumU
  induction ls with
  | nil => rfl
  | cons a r ih => rw [List.flatMap_cons, List.length_append, ih]; simp
theorem linesL_next {fs : List PairD} {ns : List (List UInt8)} {k : Nat} {ls : List (List UInt8)} {v : List UInt8} (hk : k < ns.length) (h : linesL fs (ns.take k) = some ls) (hv : fieldL fs (gL ns k) = some v) : linesL fs (ns.take (k + 1)) = some (ls ++ [gL ns k ++ 58 :: squeezeL v]) := by
  rw [take_snocG ns k hk, linesL_snoc, h]
  simp only
  unfold lineL
  rw [hv]
  rfl
set_option maxRecDepth 100000 in
set_option maxHeartbeats 8000000 in
theorem RCanonical_any (r : ReqD) (A : Option Addr) (n c : Nat) (B : Option Addr) (k kc : Nat) (names : List (List UInt8)) (w : World) (hf : PairsAt w A n r.fs) (hc : n ≤ c) (hcap : c ≤ 9223372036854775807) (hok : ReqOk r)
    (hnm : NmAt w B k names) (hkc : k ≤ kc) (hk : k ≤ 1060000) (hnb : sumU names ≤ 10000000) :
    Calls Tryz.prog 14 #[.agg (reqC r A n c).toArray, .slice B k kc] w fun e w' => e = .returned (.tuple #[.string ⟨((canonQ r names).getD []).toArray⟩, .bool (canonQ r names).isSome]) ∧ Q w w' := by
  have hnl : ∀ x ∈ names, x.length ≤ 100000000 := fun x hx => by
    obtain ⟨j, hj, rfl⟩ := List.mem_iff_getElem.1 hx
    have := part_sumU names j hj
    rw [gL_get _ _ hj] at this; omega
  have HT := Lib.hid (fun W => RTarget_any r.tg W (by have := hok.tg; omega))
  unfold TgtPost at HT
  have HNM := Lib.hid hnm
  have HF := Lib.hid hf
  have HN := Lib.hid (fun W (h : NmAt W B k names) => RNames_any B k kc names W h (by omega) hnl)
  have hcnt : 3 * r.fs.length ≤ 10000000 := by
    have h1 : ∀ ps : List PairD, 3 * ps.length ≤ (ps.map fun p => p.1.length + p.2.length + 3).sum := by
      intro ps
      induction ps with
      | nil => simp
      | cons p t ih => simp only [List.map_cons, List.sum_cons, List.length_cons]; omega
    exact Nat.le_trans (h1 r.fs) hok.hv
  have hea : ∀ p ∈ r.fs, p.1.length ≤ 10000000 ∧ p.2.length ≤ 10000000 := fun p hp => by have := heavy_mem hp; have h2 := hok.hv; unfold heavy at this; omega
  have hn0 := hf.1
  have HFd := Lib.hid (fun (t : List UInt8) W (hq : Q w W) (ht : t.length ≤ 100000000) => RField_any A n c r.fs t W (hf.q hq) (by omega) hea ht)
  have hfm : ∀ t v, fieldL r.fs t = some v → v.length ≤ 10000000 := fun t v h => by have := fieldL_mem h; have hv := hok.hv; unfold heavy at this; omega
  have HLE := Lib.hid (fun ns ls h => linesL_each r.fs 10000000 hfm ns ls h)
  have HFM := Lib.hid hfm
  have HJ := Lib.hid (fun W (h : NmAt W B k names) => RJoined_any B k kc names 59 W h (by omega))
  have hjl : (Lib.join names [59]).length ≤ 10000000 := Nat.le_trans (sum_len_join 59 names) hnb
  have HTK := Lib.hid (fun j => Nat.le_trans (sumU_take names j) hnb)
  have hgl : ∀ j, (gL names j).length ≤ 10000000 := fun j => by
    by_cases hj : j < names.length
    · have := part_sumU names j hj; omega
    · have : gL names j = [] := by simp [gL, List.getD, hj]
      rw [this]; simp
  have HGL := Lib.hid hgl
  have HSq := Lib.hid (fun (v : List UInt8) W (h : v.length ≤ 100000000) => RSqueezed_any v W h)
  obtain ⟨J, hJ⟩ : ∃ x, Lib.join names [59] = x := ⟨_, rfl⟩
  rw [hJ] at HJ hjl
  have hth := tgt_heavy r.tg
  have htg := hok.tg
  have hmm := hok.m
  obtain ⟨q, hq⟩ : ∃ q, canonQ r names = q := ⟨_, rfl⟩
  rw [hq]
  unfold canonQ at hq
  rw [hJ] at hq
  have HQQ := Lib.hid hq
  obtain ⟨N, w0, hN, e0, hb0, hq0⟩ : ∃ N w0, w.heap.size = N ∧ w.alloc (.cells (reqV r (.slice A n c)).toArray 24) = w0 ∧ RB w0 N r (.slice A n c) ∧ Q w w0 := ⟨_, _, rfl, rfl, RB.new w r _, (Q.refl w).alloc _⟩
  have HB0 := Lib.hid hb0
  have HQ0 := Lib.hid hq0
  obtain ⟨⟨path, qs, ee, aa⟩, hT⟩ : ∃ T, tgtL r.tg = T := ⟨_, rfl⟩
  rw [hT] at HT hth
  have hHd : headL r = [r.m, encL false path, canonL qs] := by unfold headL; rw [hT]
  rw [hT, hHd] at HQQ
  simp only at HT hth
  obtain ⟨hth1, hth2⟩ := hth
  have hql := heavy_len qs
  have hqe : ∀ p ∈ qs, p.1.length ≤ 10000000 ∧ p.2.length ≤ 10000000 := fun p hp => by have := heavy_mem hp; omega
  have hcl := canon_heavy qs
  have hel := encL_le false path
  have HE := Lib.hid (fun W => REncode_any path false W (by omega))
  have HC := Lib.hid (fun (A2 : Option Addr) (c2 : Nat) W (hp : PairsAt W A2 qs.length qs) (hc2 : qs.length ≤ c2) (hcb : c2 ≤ 9223372036854775807) => RCanon_any A2 qs.length c2 qs W hp hc2 hcb (by omega) hqe)
  obtain ⟨E, hE⟩ : ∃ E, encL false path = E := ⟨_, rfl⟩
  obtain ⟨C, hC⟩ : ∃ C, canonL qs = C := ⟨_, rfl⟩
  rw [hE] at HE
  rw [hC] at HC
  rw [hE, hC] at HQQ
  have hEl : E.length ≤ 4000000 := by rw [← hE]; omega
  have hCl : C.length ≤ 10000000 := by rw [← hC]; omega
  clear hth1 hth2 hql hqe hcl hel hE hC hHd hT hq hJ hf hnm hok hnb hgl hea hfm hcnt hb0 hq0 hnl htg hn0
  obtain ⟨m, tg, minor, fs, body, close⟩ := r
  simp only [reqV] at e0
  simp only at HT HQQ HFd HLE HFM hmm
  unfold reqC
  go_enter Tryz.func14, Tryz.ntmps14
  obtain ⟨b0, b1, b2, b3, b4, b5⟩ := HB0.out.c
  go_wp2_with fail
  refine (HT.out _).mono ?_
  rintro e w2 ⟨v7, rfl, ho7, hq2⟩
  have HQ2 := Lib.hid (HQ0.out.trans hq2)
  have HO2 := Lib.hid ho7
  have HB2 := Lib.hid (HB0.out.q hq2)
  clear hq2 ho7 b0 b1 b2 b3 b4 b5 e0 hN HQ0 HB0
  go_wp2_with fail
  refine (HN.out _ (HNM.out.q HQ2.out)).mono ?_
  rintro e w3 ⟨⟨rr, rfl, hr⟩, hq3⟩
  have HQ3 := Lib.hid (HQ2.out.trans hq3)
  have HO3 := Lib.hid (HO2.out.q hq3)
  have HB3 := Lib.hid (HB2.out.q hq3)
  clear hq3 HQ2 HO2 HB2 HN
  by_cases he : ee = 0
  rotate_left
  · have q1 : (((ee : Nat) : Int) != 0) = true := by simp only [bne_iff_ne, ne_eq]; omega
    have HR : Hid (q = none) := Lib.hid (by rw [← HQQ.out, if_neg (fun h => he h.1)])
    clear he hr
    go_wp2_with fail
    go_ret2
    exact ⟨by rw [HR.out]; rfl, HQ3.out⟩
  have q1 : (((ee : Nat) : Int) != 0) = false := by rw [he]; rfl
  rcases rr with _ | _
  · have HR : Hid (q = none) := Lib.hid (by rw [← HQQ.out, if_neg (fun h => by have := hr.2 h.2; cases this)])
    clear he hr
    go_wp2_with fail
    go_ret2
    exact ⟨by rw [HR.out]; rfl, HQ3.out⟩
  have hno := hr.1 rfl
  have HQ4 : Hid ((match linesL fs names, fieldL fs bodySumL with | some ls, some sum => some (Lib.join ([m, E, C] ++ ls ++ [[], J, sum]) [10]) | _, _ => none) = q) := Lib.hid (by rw [← HQQ.out, if_pos ⟨he, hno⟩]; rcases linesL fs names with _ | _ <;> rcases fieldL fs bodySumL with _ | _ <;> rfl)
  clear hr hno he HQQ
  obtain ⟨A2, c2, rfl, hc2, hp2⟩ := HO3.out.pairs
  have hcb2 := HO3.out.capb'
  have HC3 : Hid (∀ W, Q w3 W → Calls Tryz.prog 39 #[.slice A2 qs.length c2] W fun e w' => e = .returned (.string ⟨C.toArray⟩) ∧ Q W w') := Lib.hid (fun W hq => HC.out A2 c2 W (hp2.q hq) hc2 hcb2)
  have d0 : ∀ mm : QW w3, mm.val.cell? ⟨N, 0, none⟩ = some (.string ⟨m.toArray⟩) := fun mm => mm.cell HB3.out.c.1
  clear hc2 hp2 hcb2 HC
  go_upto_region 5 with (fail)
  refine wp_region_q (by kernel_rfl) (by kernel_rfl) ?_
  (repeat (go_big_quiet_step (first | (go_at_call 38; exact calls_q (HE.out _)) | (go_at_call 39; exact calls_q (HC3.out _ (QW.le _))))))
  refine wpQuiet_nil ?_
  rintro w4 ⟨m4, hm4⟩
  have hq4 : Q w3 w4 := by rw [hm4]; exact m4.le
  have HQ5 := Lib.hid (HQ3.out.trans hq4)
  have HB5 := Lib.hid (HB3.out.q hq4)
  clear m4 hm4 hq4 d0 HE HC3 HO3 HQ3 HB3
  have HS0 : Hid (endL [m, E, C] = m ++ 10 :: (E ++ 10 :: (C ++ [10]))) := Lib.hid (by simp [endL])
  have hl0 : (m ++ 10 :: (E ++ 10 :: (C ++ [10]))).length ≤ 24000003 := by
    simp only [List.length_append, List.length_cons, List.length_nil]; omega
  have HKN := Lib.hid HNM.out.1
  obtain ⟨S0, hS0⟩ : ∃ x, m ++ 10 :: (E ++ 10 :: (C ++ [10])) = x := ⟨_, rfl⟩
  rw [hS0] at HS0 hl0 ⊢
  clear hS0
  have HBnd : Hid (∀ ls, (∃ j, linesL fs (names.take j) = some ls) → (endL ([m, E, C] ++ ls)).length ≤ 20000000000000) := Lib.hid (fun ls ⟨j, h⟩ => by
    have h1 := HLE.out _ _ h
    have h2 := HTK.out j
    have h3 : (names.take j).length ≤ 1060000 := by rw [List.length_take]; have := HKN.out; omega
    have h4 : ls.length * 10000002 ≤ 1060000 * 10000002 := Nat.mul_le_mul_right _ (by omega)
    rw [endL_len]
    simp only [sumU, List.map_append, List.map_cons, List.map_nil, List.sum_append, List.sum_cons, List.sum_nil] at *
    omega)
  clear HLE HTK
  go_wp2_with fail
  go_loopw [11, 12] (fun sv i wr => ∃ (j : Nat) (ls : List (List UInt8)) (s : List UInt8), j ≤ k ∧ sv = .string ⟨s.toArray⟩ ∧ i = .int .i64 (j : Int) ∧ Hid (linesL fs (names.take j) = some ls) ∧ Hid (s = endL ([m, E, C] ++ ls)) ∧ s.length ≤ 20000000000000 ∧ Hid (Q w wr) ∧ Hid (RB wr N ⟨m, tg, minor, fs, body, close⟩ (.slice A n c))) (fun _ i _ => k - (intOf i).toNat)
  case atStart => exact ⟨0, [], S0, by omega, rfl, rfl, Lib.hid rfl, Lib.hid (by rw [List.append_nil, HS0.out]), by omega, HQ5, HB5⟩
  case round =>
    clear HQ5 HB5
    obtain ⟨j, ls, s, hj, rfl, rfl, HL, HSE, hsl, HQj, HBj⟩ := hrel
    rename World => wa
    by_cases hlt : j < k
    · have g1 : decide (j < k) = true := by simpa using hlt
      have hjn : j < names.length := by rw [← HKN.out]; exact hlt
      obtain ⟨gb, ob, rfl, cn⟩ := (HNM.out.q HQj.out).at hlt
      have hnl2 := HGL.out j
      have HNo := Lib.hid (fun h => linesL_none (fs := fs) (ns := names) j hjn h)
      have HNx := Lib.hid (fun v h => linesL_next (fs := fs) (v := v) hjn HL.out h)
      obtain ⟨nm, hnm2⟩ : ∃ nm, gL names j = nm := ⟨_, rfl⟩
      rw [hnm2] at cn hnl2 HNo HNx
      obtain ⟨FV, hFV⟩ : ∃ x, fieldL fs nm = x := ⟨_, rfl⟩
      have HFV := Lib.hid hFV
      have HFn : Hid (∀ W, Q w W → Calls Tryz.prog 40 #[.slice A n c, .string ⟨nm.toArray⟩] W fun e w' => e = .returned (.tuple #[.string ⟨(FV.getD []).toArray⟩, .bool FV.isSome]) ∧ Q W w') := Lib.hid (fun W hq => by
        have := HFd.out nm W hq (by omega)
        rw [hFV] at this; exact this)
      clear hnm2 hFV
      have d3 : ∀ mm : QW wa, mm.val.cell? ⟨N, 3, none⟩ = some (.slice A n c) := fun mm => mm.cell HBj.out.c.2.2.2.1
      have dn : ∀ mm : QW wa, mm.val.cell? ⟨gb, ob + j, none⟩ = some (.string ⟨nm.toArray⟩) := fun mm => mm.cell cn
      go_upto_region 9 with (fail)
      refine wp_region_q (by kernel_rfl) (by kernel_rfl) ?_
      (repeat (go_big_quiet_step ((go_at_call 40; exact calls_q (HFn.out _ (Q.trans HQj.out (QW.le _)))))))
      refine wpQuiet_nil ?_
      rintro wb ⟨mb, hmb⟩
      have hqb : Q wa wb := by rw [hmb]; exact mb.le
      have HQb := Lib.hid (HQj.out.trans hqb)
      have HBb := Lib.hid (HBj.out.q hqb)
      have cnb := hqb.cell cn
      clear mb hmb hqb d3 dn cn HQj HBj HFn
      rcases FV with _ | v
      · have HR : Hid (q = none) := Lib.hid (by
          have h1 := HNo.out (by unfold lineL; rw [HFV.out]; rfl)
          rw [← HQ4.out, h1])
        simp only [Option.getD_none, Option.isSome_none]
        clear HNo HNx
        go_wp2_with fail
        go_ret2
        rw [HR.out]
        exact ⟨rfl, HQb.out⟩
      · have hvl := HFM.out nm v HFV.out
        have HNx2 := Lib.hid (HNx.out v HFV.out)
        have HSqv := Lib.hid (fun W => HSq.out v W (by omega))
        have hsql := squeeze_le v
        obtain ⟨SQ, hSQ⟩ : ∃ x, squeezeL v = x := ⟨_, rfl⟩
        rw [hSQ] at HNx2 HSqv hsql
        have HSN : Hid (s ++ (nm ++ 58 :: (SQ ++ [10])) = endL ([m, E, C] ++ (ls ++ [nm ++ 58 :: SQ]))) := Lib.hid (by rw [← List.append_assoc [m, E, C], endL_snoc, ← HSE.out]; simp)
        have hsn : (s ++ (nm ++ 58 :: (SQ ++ [10]))).length ≤ 20000000000000 := by rw [HSN.out]; exact HBnd.out _ ⟨j + 1, HNx2.out⟩
        simp only [Option.getD_some, Option.isSome_some]
        clear HNo HNx hSQ
        go_upto_region 12 with (fail)
        have dn : ∀ mm : QW wb, mm.val.cell? ⟨gb, ob + j, none⟩ = some (.string ⟨nm.toArray⟩) := fun mm => mm.cell cnb
        refine wp_region_q (by kernel_rfl) (by kernel_rfl) ?_
        (repeat (go_big_quiet_step ((go_at_call 41; exact calls_q (HSqv.out _)))))
        refine wpQuiet_nil ?_
        rintro wd ⟨md, hmd⟩
        have hqd : Q wb wd := by rw [hmd]; exact md.le
        have HQd := Lib.hid (HQb.out.trans hqd)
        have HBd := Lib.hid (HBb.out.q hqd)
        clear md hmd hqd dn cnb HQb HBb
        go_wp2_with fail
        go_roundw
        case rel => exact ⟨j + 1, ls ++ [nm ++ 58 :: SQ], s ++ (nm ++ 58 :: (SQ ++ [10])), by omega, by simp, by go_num, HNx2, HSN, hsn, HQd, HBd⟩
        case measure => simp [intOf]; omega
    · have hjk : j = k := by omega
      have HLk : Hid (linesL fs names = some ls) := Lib.hid (by rw [← HL.out, hjk, HKN.out, List.take_length])
      have hlt' : decide (j < k) = false := by simpa using hlt
      obtain ⟨FV, hFV⟩ : ∃ x, fieldL fs bodySumL = x := ⟨_, rfl⟩
      have HFV := Lib.hid hFV
      have HFn : Hid (∀ W, Q w W → Calls Tryz.prog 40 #[.slice A n c, .string ⟨#[120, 45, 97, 109, 122, 45, 99, 111, 110, 116, 101, 110, 116, 45, 115, 104, 97, 50, 53, 54]⟩] W fun e w' => e = .returned (.tuple #[.string ⟨(FV.getD []).toArray⟩, .bool FV.isSome]) ∧ Q W w') := Lib.hid (fun W hq => by
        have := HFd.out bodySumL W hq (by decide)
        rw [hFV] at this; exact this)
      have b3 := HBj.out.c.2.2.2.1
      clear hjk hFV hlt
      go_wp2_with fail
      refine (HFn.out _ HQj.out).mono ?_
      rintro e wb ⟨rfl, hqb⟩
      have HQb := Lib.hid (HQj.out.trans hqb)
      clear hqb b3 HQj HBj
      rcases FV with _ | v
      · have HR : Hid (q = none) := Lib.hid (by rw [← HQ4.out, HLk.out, HFV.out])
        simp only [Option.getD_none, Option.isSome_none]
        go_wp2_with fail
        go_ret2
        rw [HR.out]
        exact ⟨rfl, HQb.out⟩
      · have hvl := HFM.out bodySumL v HFV.out
        have HR : Hid (q = some (s ++ 10 :: (J ++ 10 :: v))) := Lib.hid (by
          rw [← HQ4.out, HLk.out, HFV.out]
          have e1 : [m, E, C] ++ ls ++ [[], J, v] = ([m, E, C] ++ ls ++ [[], J]) ++ [v] := by simp
          show some (Lib.join ([m, E, C] ++ ls ++ [[], J, v]) [10]) = _
          rw [e1, join_end, endL_app, ← HSE.out]
          simp [endL])
        simp only [Option.getD_some, Option.isSome_some]
        go_wp2_with fail
        refine (HJ.out _ (HNM.out.q HQb.out)).mono ?_
        rintro e wd ⟨rfl, hqd⟩
        subst hqd
        go_wp2_with fail
        go_ret2
        rw [HR.out]
        refine ⟨?_, HQb.out⟩
        simp
end Go.Proofs.YtmmoenbmgcplkaaGreatDoor
set_option linter.unusedVariables false
set_option linter.unusedSimpArgs false
namespace Go.Proofs.YtmmoenbmgcplkaaGreatDoor
open Go Go.RowKit
theorem reqOk_plain {r : ReqD} (htg : r.tg.length ≤ 1048576) (hm : r.m.length ≤ 1048576) (hv : heavy r.fs ≤ 1048576) : ReqOk r := ⟨by omega, by omega, by show heavy r.fs ≤ _; omega⟩
end Go.Proofs.YtmmoenbmgcplkaaGreatDoor
