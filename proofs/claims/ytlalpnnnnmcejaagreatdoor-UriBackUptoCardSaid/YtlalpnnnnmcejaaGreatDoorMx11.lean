/- Texts of this proof, laid into one: VaM, VaN. -/
import Derived.Test.YtlalpnnnnmcejaaGreatDoorMx10
/- The law UriCanons. -/
set_option linter.unusedVariables false
set_option linter.unusedSimpArgs false
namespace Go.Proofs.YtlalpnnnnmcejaaGreatDoor
open Go Go.RowKit
def markP : PairD := ([109, 97, 114, 107], [])
theorem gU_end (ps : List PairD) (p : PairD) : gU (ps ++ [p]) ps.length = p := by simp [gU]
theorem heavy_each {ps : List PairD} (h : (ps.map fun p => p.1.length + p.2.length + 3).sum ≤ 1048576) : ∀ p ∈ ps, p.1.length ≤ 10000000 ∧ p.2.length ≤ 10000000 := fun p hp => by
  have h1 := heavy_mem hp
  unfold heavy at h1
  omega
set_option maxRecDepth 100000 in
set_option maxHeartbeats 2000000 in
theorem UriCanons_any (A : Option Addr) (n cap : Nat) (ps : List PairD) (w : World) (h : PairsAt w A n ps) (hc : n ≤ cap) (hcap : cap ≤ 9223372036854775807) (hh : (ps.map fun p => p.1.length + p.2.length + 3).sum ≤ 1048576) (hu : U13 w) :
    Calls Tryz.prog 5 #[.slice A n cap] w fun e w' => e = .returned (.bool true) ∧ Q w w' := by
  have hlen := heavy_len ps
  unfold heavy at hlen
  have hpl := h.1
  have hn1 : n ≤ 1100000 := by omega
  have hps := heavy_each hh
  have HNL := Lib.hid h.1
  have HU := Lib.hid hu
  have HP := Lib.hid h
  have HC := Lib.hid (fun (A' : Option Addr) (c' : Nat) W (hp : PairsAt W A' n ps) h1 h2 => Canon_any A' n c' ps W hp h1 h2 hn1 hps)
  have HRC := Lib.hid (fun W (hp : PairsAt W A n ps) => RCanon_any A n cap ps W hp hc hcap hn1 hps)
  generalize canonL ps = C at HC HRC
  clear hlen hpl hps hh hu h hcap
  go_enter Tryz.func5, Tryz.ntmps5
  go_wp2_with fail
  refine (examples13_any _ HU.out).mono ?_
  rintro e w1 ⟨rfl, hq1⟩
  have HQ1 := Lib.hid hq1
  obtain ⟨w3, hmk, ho3, hq3⟩ := make_pairs w1 (n + 1) (n + 1) (Nat.le_refl _) (by omega)
  have hmk : (Instr.makeSlice 30 (.int .i64 ((n : Int) + 1)) (.int .i64 ((n : Int) + 1))).run Tryz.prog w1 = .ok (.slice (some ⟨w1.heap.size, 0, none⟩) (n + 1) (n + 1)) w3 := hmk
  obtain ⟨G, hG⟩ : ∃ G, G = w1.heap.size := ⟨_, rfl⟩
  rw [← hG] at hmk ho3
  have HG := Lib.hid hG
  clear hG hq1
  go_upto_region 3 with (fail)
  iterate 7 go_step
  refine wpList_copy_u rfl (.tmp 12) (.tmp 13) rfl w1 w3 G (n + 1) (n + 1) (List.replicate (n + 1) default) ps _ n cap (by rfl) ho3 List.length_replicate (by rfl) ((HP.out.q HQ1.out).q hq3) hq3 ?_
  intro w4 ho4 hq4 _
  have e1 : ps.take (n + 1) ++ (List.replicate (n + 1) (default : PairD)).drop n = ps ++ [default] := by
    rw [List.take_of_length_le (by have := HNL.out; omega), List.drop_replicate, show n + 1 - n = 1 by omega]; rfl
  rw [e1] at ho4
  obtain ⟨g, hg, hgs, hth, ho5, hg5⟩ := ho4.setU n (by omega) markP
  cases hg
  have e2 : (ps ++ [(default : PairD)]).set n markP = ps ++ [markP] := by rw [HNL.out, List.set_append_right _ _ (Nat.le_refl _)]; simp
  rw [e2] at ho5
  have HO5 := Lib.hid ho5
  have HQ5 := Lib.hid (HQ1.out.trans (Below.grown hq4 hg5 hq4.size (fun k hk => by cases hk; rw [HG.out]; exact Nat.le_refl _)))
  clear hmk ho3 ho4 e1 e2 ho5 hg5 hq3 hq4 hgs
  go_upto_region 5 with (refine wpList_store_mid rfl 37 _ _ rfl G (n * 2) (pairL markP).toArray (by rfl) (by rfl) hth infoP (pairL_one _) ?_)
  obtain ⟨w5, hw5⟩ : ∃ W, w4.setCells G (n * 2) (pairL markP) = W := ⟨_, rfl⟩
  rw [hw5] at HO5 HQ5
  have hw5b : w4.setCells G (n * 2) (pairL markP).toArray.toList = w5 := hw5
  first | rw [hw5] | rw [hw5b]
  clear hw5 hw5b hth hmk
  have HX : Hid (∀ W, Q w5 W → PairsAt W (some ⟨G, 0, none⟩) n ps) := Lib.hid (fun W hq => by
    obtain ⟨A', c', e, _, hp⟩ := (HO5.out.q hq).pairs
    injection e with e1 _ _
    subst e1
    have h2 := hp.take n (by rw [List.length_append, ← HNL.out]; simp)
    rwa [List.take_append_of_le_length (by rw [← HNL.out]; exact Nat.le_refl _), HNL.out, List.take_length, ← HNL.out] at h2)
  go_wp2_with fail
  refine (HC.out _ _ _ (HX.out _ (Q.refl _)) (by omega) (by omega)).mono ?_
  rintro e w6 ⟨rfl, hq6⟩
  have HQ6 := Lib.hid (HQ5.out.trans hq6)
  have HX6 := Lib.hid hq6
  clear hq6
  go_wp2_with fail
  refine (same_any _ _ n n _ _ ps ps _ (HX.out _ HX6.out) (HP.out.q HQ6.out) (by omega) (by omega)).mono ?_
  rintro e w7 ⟨rfl, hq7⟩
  rw [decide_eq_true (rfl : ps = ps)]
  have HQ7 := Lib.hid (HQ6.out.trans hq7)
  have HX7 := Lib.hid (HX6.out.trans hq7)
  clear hq7
  go_wp2_with fail
  refine (HRC.out _ (HP.out.q HQ7.out)).mono ?_
  rintro e w8 ⟨rfl, hq8⟩
  have HQ8 := Lib.hid (HQ7.out.trans hq8)
  have ho8 := HO5.out.q (HX7.out.trans hq8)
  obtain ⟨g, hg, c0, c1, _, _⟩ := ho8.el (j := n) (by rw [List.length_append, ← HNL.out]; simp)
  cases hg
  have hgu : gU (ps ++ [markP]) n = markP := by rw [HNL.out]; exact gU_end ps markP
  rw [hgu] at c0 c1
  simp only [markP] at c0 c1
  clear hq8 ho8 hgu
  go_wp2_with fail
  go_ret
  refine ⟨?_, HQ8.out⟩
  first | rfl | (show Ending.returned (.bool _) = .returned (.bool true); simp)
end Go.Proofs.YtlalpnnnnmcejaaGreatDoor
/- The law UriBack. -/
set_option linter.unusedVariables false
set_option linter.unusedSimpArgs false
namespace Go.Proofs.YtlalpnnnnmcejaaGreatDoor
open Go Go.RowKit
theorem cnt_snoc (ps : List PairD) (k : Nat) (h : k < ps.length) (p : PairD) : (ps.take (k + 1)).count p = (ps.take k).count p + if gU ps k = p then 1 else 0 := by
  rw [take_snocP ps k h, List.count_append, List.count_singleton]; simp [beq_iff_eq]
theorem OwnU.capb {w0 w : World} {A : Option Addr} {n cap : Nat} {l : List PairD} (h : OwnU w0 w (.slice A n cap) l) : cap ≤ 9223372036854775807 := by
  rcases h.2 with ⟨h1, _⟩ | ⟨g, c2, cur, h1, _, _, _, hm, _⟩
  · injection h1 with _ _ h3; omega
  · injection h1 with _ _ h3; subst h3; exact hm
set_option maxRecDepth 100000 in
set_option maxHeartbeats 4000000 in
theorem UriBack_any (s b : List UInt8) (A : Option Addr) (n cap : Nat) (ps : List PairD) (w : World) (hs : s.length ≤ 1048576) (hb : b.length ≤ 1048576) (h : PairsAt w A n ps) (hc : n ≤ cap) (hcap : cap ≤ 9223372036854775807) (hh : (ps.map fun p => p.1.length + p.2.length + 3).sum ≤ 1048576) (hu : U13 w) :
    Calls Tryz.prog 6 #[.string ⟨s.toArray⟩, .string ⟨b.toArray⟩, .slice A n cap] w fun e w' => e = .returned (.bool true) ∧ Q w w' := by
  have hlen := heavy_len ps
  unfold heavy at hlen
  have hpl := h.1
  have hn1 : n ≤ 1100000 := by omega
  have hps := heavy_each hh
  have HNL := Lib.hid h.1
  have HU := Lib.hid hu
  have HP := Lib.hid h
  obtain ⟨qs, hqs, htg⟩ := tgt_back s ps
  have hql : qs.length = n := by rw [hqs.length_eq, hpl]
  have HQL := Lib.hid hql
  have HPM := Lib.hid hqs
  have hqps : ∀ p ∈ qs, p.1.length ≤ 10000000 ∧ p.2.length ≤ 10000000 := fun p hp => hps p (hqs.mem_iff.1 hp)
  have hce : canonL qs = canonL ps := canonL_perm hqs
  have hcl : (canonL ps).length ≤ 3145728 := by
    have := canon_heavy ps
    unfold heavy at this; omega
  have hel := encL_le false (47 :: s)
  have hel1 := encL_le true s
  have hel2 := encL_le false s
  simp only [List.length_cons] at hel
  have HC := Lib.hid (fun W (hp : PairsAt W A n ps) => Canon_any A n cap ps W hp hc hcap hn1 hps)
  have HC2 := Lib.hid (fun (A' : Option Addr) (c' : Nat) W (hp : PairsAt W A' n qs) h1 h2 => Canon_any A' n c' qs W hp h1 h2 hn1 hqps)
  rw [hce] at HC2
  have HT := Lib.hid (fun W hW => Target_any (encL false (47 :: s) ++ 63 :: canonL ps) W hW (by rw [List.length_append, List.length_cons]; omega))
  unfold TgtPost at HT
  rw [htg] at HT
  simp only at HT
  have HE1 := Lib.hid (fun W => Encode_any s true W (by omega))
  have HE2 := Lib.hid (fun W => Encode_any s false W (by omega))
  have HE3 := Lib.hid (fun W => Encode_any (47 :: s) false W (by simp only [List.length_cons]; omega))
  have hd1 : decOut (encL true s) = (s, 0, 0) := by unfold decOut; rw [dec_enc']
  have hd2 : decOut (encL false s) = (s, 0, 0) := by unfold decOut; rw [dec_enc']
  have HD1 := Lib.hid (fun W => Decode_any (encL true s) W (by omega))
  have HD2 := Lib.hid (fun W => Decode_any (encL false s) W (by omega))
  rw [hd1] at HD1
  rw [hd2] at HD2
  obtain ⟨X3, hX3⟩ : ∃ X3, encL false (47 :: s) = X3 := ⟨_, rfl⟩
  rw [hX3] at HT HE3 hel
  generalize encL true s = X1 at HE1 HD1 hel1
  generalize encL false s = X2 at HE2 HD2 hel2
  generalize canonL ps = C at HC HC2 HT hcl
  have HB := Lib.hid (fun W hW => Bucket_any b W hW)
  have HJ := Lib.hid (fun W => Join_any b s W (by omega) (by omega))
  have hjl : (joinU b s).length ≤ b.length + s.length + 2 := by
    unfold joinU; split
    · simp; omega
    · simp; omega
  have HSp := Lib.hid (fun W hW => Split_any (joinU b s) W hW (by omega))
  have HBS : Hid (bucketL b = true → splitU (joinU b s) = (b, s)) := Lib.hid (fun h => split_joinU h s)
  generalize joinU b s = J at HJ HSp HBS hjl
  generalize bucketL b = BB at HB HBS
  have hX3l : X3.length ≤ 4000000 := by omega
  clear hlen hpl hps hh hu h hqs htg hql hqps hce hd1 hd2 hX3 hel hel1 hel2 hjl
  go_enter Tryz.func6, Tryz.ntmps6
  go_wp2_with fail
  refine (examples13_any _ HU.out).mono ?_
  rintro e w1 ⟨rfl, hq⟩
  have HQ := Lib.hid hq
  clear hq
  go_wp2_with fail
  refine (HE1.out _).mono ?_
  rintro e w2 ⟨rfl, hq⟩
  have HQ := Lib.hid (HQ.out.trans hq)
  clear hq
  go_wp2_with fail
  refine (HD1.out _).mono ?_
  rintro e w3 ⟨rfl, hq⟩
  have HQ := Lib.hid (HQ.out.trans hq)
  clear hq
  go_wp2_with fail
  refine (HE2.out _).mono ?_
  rintro e w4 ⟨rfl, hq⟩
  have HQ := Lib.hid (HQ.out.trans hq)
  clear hq
  go_wp2_with fail
  refine (HD2.out _).mono ?_
  rintro e w5 ⟨rfl, hq⟩
  have HQ := Lib.hid (HQ.out.trans hq)
  clear hq
  go_wp2_with fail
  refine (HC.out _ (HP.out.q HQ.out)).mono ?_
  rintro e w6 ⟨rfl, hq⟩
  have HQ := Lib.hid (HQ.out.trans hq)
  clear hq
  go_wp2_with fail
  refine (HE3.out _).mono ?_
  rintro e w7 ⟨rfl, hq⟩
  have HQ := Lib.hid (HQ.out.trans hq)
  clear hq
  go_wp2_with fail
  refine (HT.out _ (HU.out.q HQ.out)).mono ?_
  rintro e w8 ⟨v17, rfl, ho, hq⟩
  have HQ := Lib.hid (HQ.out.trans hq)
  obtain ⟨A2, c2, rfl, hc2, hp2⟩ := ho.pairs
  have hcb2 := ho.capb
  rw [HQL.out] at hc2 hp2 ⊢
  have HPQ := Lib.hid hp2
  clear hq ho hp2 HE1 HE2 HE3 HD1 HD2 HT HC
  go_wp2_with fail
  refine (HC2.out _ _ _ HPQ.out hc2 hcb2).mono ?_
  rintro e w9 ⟨rfl, hq⟩
  have HQ := Lib.hid (HQ.out.trans hq)
  have HPQ := Lib.hid (HPQ.out.q hq)
  clear hq HC2
  go_wp2_with fail
  go_loopw [20] (fun i wr => ∃ t : Nat, t ≤ n ∧ i = .int .i64 (t : Int) ∧ Hid (Q w wr) ∧ Hid (PairsAt wr A2 n qs)) (fun i _ => n - (intOf i).toNat)
  case atStart => exact ⟨0, by omega, rfl, HQ, HPQ⟩
  case round =>
    clear HPQ
    obtain ⟨t, ht, rfl, HQ, HPQ⟩ := hrel
    rename World => wa
    by_cases hlt : t < n
    · have g1 : decide (t < n) = true := by simpa using hlt
      obtain ⟨g, off, rfl, _, _⟩ := (HP.out.q HQ.out).at hlt
      obtain ⟨g2, off2, rfl, _, _⟩ := HPQ.out.at hlt
      obtain ⟨⟨pn, pv⟩, hp⟩ : ∃ p, gU ps t = p := ⟨_, rfl⟩
      have HPT := Lib.hid hp
      clear hp
      go_wp2_with fail
      go_loopw [21, 22] (fun dv i wr => ∃ (k : Nat) (D : Int), k ≤ n ∧ i = .int .i64 (k : Int) ∧ dv = .int .i64 D ∧ -(k : Int) ≤ D ∧ D ≤ (k : Int) ∧ Hid (D = (((ps.take k).count (pn, pv) : Nat) : Int) - (((qs.take k).count (pn, pv) : Nat) : Int)) ∧ Hid (Q w wr) ∧ Hid (PairsAt wr (some ⟨g2, off2, none⟩) n qs)) (fun _ i _ => n - (intOf i).toNat)
      case atStart => exact ⟨0, 0, by omega, rfl, rfl, by omega, by omega, Lib.hid (by simp), HQ, HPQ⟩
      case round =>
        clear HQ HPQ
        obtain ⟨k, D, hk, rfl, rfl, hd1, hd2, HD, HQ, HPQ⟩ := hrel
        rename World => wb
        by_cases hkn : k < n
        · have g2 : decide (k < n) = true := by simpa using hkn
          obtain ⟨g3, off3, h3, e0, e1⟩ := (HP.out.q HQ.out).at hkn
          cases h3
          obtain ⟨g3, off3, h3, e2, e3⟩ := HPQ.out.at hkn
          cases h3
          obtain ⟨g3, off3, h3, e4, e5⟩ := (HP.out.q HQ.out).at hlt
          cases h3
          have HC1 := Lib.hid (cnt_snoc ps k (by rw [← HNL.out]; exact hkn) (pn, pv))
          have HC2 := Lib.hid (cnt_snoc qs k (by rw [HQL.out]; exact hkn) (pn, pv))
          obtain ⟨⟨x, y⟩, hx⟩ : ∃ p, gU ps k = p := ⟨_, rfl⟩
          obtain ⟨⟨x2, y2⟩, hx2⟩ : ∃ p, gU qs k = p := ⟨_, rfl⟩
          rw [hx] at e0 e1 HC1
          rw [hx2] at e2 e3 HC2
          rw [HPT.out] at e4 e5
          simp only at e0 e1 e2 e3 e4 e5
          clear hx hx2
          have hqd : Q wb wb.drew := (Q.refl _).drew
          have f2 := hqd.cell e2
          have f3 := hqd.cell e3
          have f4 := hqd.cell e4
          have f5 := hqd.cell e5
          have hqd2 : Q wb wb.drew.drew := (Q.refl _).drew.drew
          have HQ := Lib.hid (HQ.out.trans hqd2)
          have HPQ := Lib.hid (HPQ.out.q hqd2)
          clear hqd hqd2
          have ha : (x = pn ∧ y = pv) ∨ (x = pn ∧ ¬ y = pv) ∨ ¬ x = pn := by
            by_cases h1 : x = pn
            · by_cases h2 : y = pv
              · exact .inl ⟨h1, h2⟩
              · exact .inr (.inl ⟨h1, h2⟩)
            · exact .inr (.inr h1)
          have hb2 : (x2 = pn ∧ y2 = pv) ∨ (x2 = pn ∧ ¬ y2 = pv) ∨ ¬ x2 = pn := by
            by_cases h1 : x2 = pn
            · by_cases h2 : y2 = pv
              · exact .inl ⟨h1, h2⟩
              · exact .inr (.inl ⟨h1, h2⟩)
            · exact .inr (.inr h1)
          have key : ∀ E : Int, E = D + ((if (x, y) = (pn, pv) then 1 else 0 : Nat) : Int) - ((if (x2, y2) = (pn, pv) then 1 else 0 : Nat) : Int) → Hid (E = (((ps.take (k + 1)).count (pn, pv) : Nat) : Int) - (((qs.take (k + 1)).count (pn, pv) : Nat) : Int)) := fun E hE => Lib.hid (by
            rw [hE, HC1.out, HC2.out, HD.out]; omega)
          have HKey := Lib.hid key
          clear key HC1 HC2 HD
          rcases ha with ⟨ha1, ha2⟩ | ⟨ha1, ha2⟩ | ha1 <;> rcases hb2 with ⟨hb1, hb2⟩ | ⟨hb1, hb2⟩ | hb1
          all_goals
            go_upto_region 16 with (fail)
            go_region
            go_upto_region 18 with (fail)
            go_region
            clear e0 e1 e2 e3 e4 e5 f2 f3 f4 f5
            go_wp2_with fail
            go_roundw
            case rel => exact ⟨k + 1, _, by omega, by go_num, rfl, by omega, by omega, HKey.out _ (by simp [*]), HQ, HPQ⟩
            case measure => simp [intOf]; omega
        · obtain rfl : k = n := by omega
          have hD0 : D = 0 := by
            have h1 := HD.out
            rw [List.take_of_length_le (by rw [← HNL.out]; exact Nat.le_refl _), List.take_of_length_le (by rw [HQL.out]; exact Nat.le_refl _), HPM.out.count_eq] at h1
            omega
          subst hD0
          clear HD hd1 hd2
          go_wp2_with fail
          go_roundw
          case rel => exact ⟨t + 1, by omega, by go_num, HQ, HPQ⟩
          case measure => simp [intOf]; omega
    · obtain rfl : t = n := by omega
      clear hlt
      go_wp2_with fail
      refine (HB.out _ (HU.out.q HQ.out)).mono ?_
      rintro e w10 ⟨rfl, hq⟩
      have HQ := Lib.hid (HQ.out.trans hq)
      clear hq
      rcases BB with _ | _
      · go_wp2_with fail
        go_ret
        exact ⟨rfl, HQ.out⟩
      · have hsp := HBS.out rfl
        rw [hsp] at HSp
        clear hsp HBS
        go_wp2_with fail
        refine (HJ.out _).mono ?_
        rintro e w11 ⟨rfl, rfl⟩
        go_wp2_with fail
        refine (HSp.out _ (HU.out.q HQ.out)).mono ?_
        rintro e w12 ⟨rfl, hq⟩
        have HQ := Lib.hid (HQ.out.trans hq)
        clear hq
        go_wp2_with fail
        go_ret
        refine ⟨?_, HQ.out⟩
        first | rfl | (show Ending.returned (.bool _) = .returned (.bool true); simp)
end Go.Proofs.YtlalpnnnnmcejaaGreatDoor
