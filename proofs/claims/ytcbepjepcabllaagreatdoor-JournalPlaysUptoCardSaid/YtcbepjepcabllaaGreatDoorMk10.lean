/- Texts of this proof, laid into one: JcD, JqB, JqC, JnQ, JqD, JpA, JpB, JqE, JqF, Frk. -/
import Derived.Test.YtcbepjepcabllaaGreatDoorMk09
/- Plain laws: Reset and a crash. -/
set_option linter.unusedVariables false
set_option linter.unusedSimpArgs false
namespace Go.Proofs.YtcbepjepcabllaaGreatDoor
open Go Go.RowKit
theorem epN_head64 (x R R' : List UInt8) (h : x.length = 64) : epN (x ++ R) = epN (x ++ R') := by
  have e1 : ∀ Y : List UInt8, sub (x ++ Y) 12 20 = sub x 12 20 := fun Y => by unfold sub; rw [List.take_append_of_le_length (by omega)]
  have e2 : ∀ Y : List UInt8, sub (x ++ Y) 0 64 = sub x 0 64 := fun Y => by unfold sub; rw [List.take_append_of_le_length (by omega)]
  unfold epN
  rw [e1, e1, e2, e2]
theorem epN_unmarked (r : List UInt8) : epN (0 :: r) = 0 := by
  unfold epN
  split
  · rfl
  · rename_i e _
    have : isHead (sub (0 :: r) 0 64) e = false := by
      unfold isHead
      have : ¬ UnpOk (sub (0 :: r) 0 64) (e : Int) 0 := fun hu => by
        obtain ⟨q, hq⟩ := unp_one hu
        have : sub (0 :: r) 0 64 = 0 :: r.take 63 := rfl
        rw [this] at hq; injection hq with hq _; revert hq; decide
      rw [decide_eq_false this]; rfl
    rw [if_neg (by rw [this]; decide)]
/-- The active half as it was, the other one older. -/
theorem JInv.keep2 {j : JrnS} {d d' : DskS} {recs : List (List UInt8)} (h : JInv j d recs) (hl : Live d') (hw : d'.wait = []) (hn : d'.n = d.n) (hr : ∀ i, i < j.half → readL d' (atJ j j.second i) = readL d (atJ j j.second i))
    (ho : epN (halfL j (!j.second) d' j.half) < j.epoch) : JInv j d' recs :=
  ⟨hl, hw, h.ok, by rw [hn]; exact h.fits, h.closed, h.many, h.next, by rw [half_congr _ hr]; exact h.half, ho, h.small⟩
def anew1 (j : JrnS) (ls : List (List UInt8)) (d : DskS) : DskS × Int := bindE (bindE (wrAll j (!j.second) 1 ls d) (cleanJ j (!j.second) (1 + sumM ls))) (wrJ j (!j.second) 1 0 (unmarkL (headL (j.epoch + 1))))
theorem anew_two (j : JrnS) (ls : List (List UInt8)) : anewJ j ls = twoP (anew1 j ls) (wrJ j (!j.second) 1 0 (headL (j.epoch + 1))) := by
  funext d
  unfold anewJ twoP anew1
  rw [bindE_assoc, bindE_assoc, bindE_assoc]
/-- Behind the first flush of anew. -/
theorem anew1_eff {j : JrnS} {d : DskS} (h : Live d) (hp : j.first + 2 * j.half ≤ d.n) (ls : List (List UInt8)) (hl : ∀ s ∈ ls, s.length = 64 * (s.length / 64)) (hk : 1 + sumM ls ≤ j.half) {A B C : List UInt8} (hh : halfL j (!j.second) d j.half = A ++ B ++ C) (ha : A.length = 64) (hb : B.length = 64 * sumM ls) :
    Eff j (!j.second) d (bindE (anew1 j ls d) flushR) (unmarkL (headL (j.epoch + 1)) ++ (ls.flatten ++ tailC (1 + sumM ls) j.half C)) ∧ (bindE (anew1 j ls d) flushR).1.wait = [] := by
  have h0 : 0 < d.n := by omega
  have hll := halfL_len (sec := !j.second) h.ok hp j.half (Nat.le_refl _)
  obtain ⟨sec, hsec⟩ : ∃ sec, (!j.second) = sec := ⟨_, rfl⟩
  unfold anew1
  rw [hsec] at hh hll ⊢
  have hcl : C.length + 64 * (1 + sumM ls) = 64 * j.half := by
    rw [hh, List.length_append, List.length_append] at hll; omega
  obtain ⟨H, hH⟩ : ∃ H, headL (j.epoch + 1) = H := ⟨_, rfl⟩
  have hHl : H.length = 64 * 1 := by rw [← hH]; exact headL_len _
  rw [hH]
  have e1 := wrAll_eff ls h hp hl hk hh (by omega : A.length = 64 * 1) hb
  have hfl : (A ++ ls.flatten).length = 64 * (1 + sumM ls) := by
    have := halfL_len (sec := sec) e1.live.ok (by rw [e1.n]; exact hp) j.half (Nat.le_refl _)
    rw [e1.half, List.length_append] at this; omega
  have e2 := clean_eff e1.live (by rw [e1.n]; exact hp) (k := 1 + sumM ls) (A := A ++ ls.flatten) (B := C.take 64) (C := C.drop 64) (by rw [e1.half, List.append_assoc _ (C.take 64), List.take_append_drop]) hfl (fun hx => by rw [List.length_take]; omega)
  have e3 : (if 1 + sumM ls < j.half then A ++ ls.flatten ++ blankL ++ C.drop 64 else A ++ ls.flatten ++ C.take 64 ++ C.drop 64) = A ++ (ls.flatten ++ tailC (1 + sumM ls) j.half C) := by
    unfold tailC
    split
    · simp
    · rw [List.append_assoc _ (C.take 64), List.take_append_drop, List.append_assoc]
  have e2 := e1.bind (f := cleanJ j sec (1 + sumM ls)) (e2.re e3)
  have hn2 := e2.n
  have hul : (unmarkL H).length = 64 * 1 := by rw [unmarkL_len (by omega)]; exact hHl
  have e4 := e2.bind (f := wrJ j sec 1 0 (unmarkL H)) (wr_eff 1 (k := 0) (s := unmarkL H) (A := []) (B := A) (C := ls.flatten ++ tailC (1 + sumM ls) j.half C) e2.live (by rw [hn2]; exact hp) (by omega) hul (by rw [e2.half]; rfl) rfl (by omega))
  have hn4 := e4.n
  obtain ⟨e5, e6⟩ := flush_eff (j := j) (sec := sec) e4.live (by rw [hn4]; exact hp) (by rw [hn4]; exact h0)
  refine ⟨(e4.bind (f := flushR) e5).re ?_, ?_⟩
  · rw [e4.half]; rfl
  · rw [bindE_ok e4.ok]; exact e6
theorem reset_crash {j : JrnS} {d : DskS} {recs : List (List UInt8)} (hd : OnD d) (hi : JInv j (lvD d) recs) (ls : List (List UInt8)) (hp : ∀ p ∈ ls, p.length ≤ 60000) (hfit : wantS ls + 1 ≤ j.half) (hee : j.epoch < 4611686018427387904) :
    ((resetD j ls d).2 = 0 ∧ OnD (resetD j ls d).1 ∧ JInv (resetJ j ls) (lvD (resetD j ls d).1) ls) ∨
    ((resetD j ls d).2 = 10 ∧ (resetD j ls d).1.gone = true ∧ (resetD j ls d).1.Ok ∧ (resetD j ls d).1.n = d.n ∧ ∀ keep torn, torn ≤ 64 → JInv j (crashD (resetD j ls d).1 keep torn) recs ∨ JInv (resetJ j ls) (crashD (resetD j ls d).1 keep torn) ls) := by
  obtain ⟨_, h3, _⟩ := hi.reset ls hp hfit hee
  have hsm : sumM (packsL (j.epoch + 1) 0 ls) = wantS ls := wantS_packs _ _ _
  have hpl : ∀ s ∈ packsL (j.epoch + 1) 0 ls, s.length = 64 * (s.length / 64) := fun s hs => (packsL_mem _ _ hp 0 s hs).1
  unfold resetD at h3 ⊢
  obtain ⟨ps, hps⟩ : ∃ ps, packsL (j.epoch + 1) 0 ls = ps := ⟨_, rfl⟩
  rw [hps] at hsm hpl h3 ⊢
  obtain ⟨M, hM⟩ : ∃ M, sumM ps = M := ⟨_, rfl⟩
  have hMf : 1 + M ≤ j.half := by omega
  have hfits := hi.fits
  have hhalf := hi.ok.half
  have hep := hi.ok.epoch
  obtain ⟨H, hH⟩ : ∃ H, headL (j.epoch + 1) = H := ⟨_, rfl⟩
  have hHl : H.length = 64 := by rw [← hH]; exact headL_len _
  have hul : (unmarkL H).length = 64 * 1 := by rw [unmarkL_len (by omega)]; exact hHl
  have hHs : sub H 0 64 = H := by unfold sub; rw [List.drop_zero, List.take_of_length_le (by omega)]
  rw [anew_two, hH] at h3 ⊢
  have hn : d.n = (lvD d).n := rfl
  have a1 : AddP (lvD d).n (fun p => allA j (!j.second) 1 M p ∨ clA j (!j.second) (1 + M) p ∨ wrA j (!j.second) 1 0 (unmarkL H) p) (anew1 j ps) := by
    have x1 := (AddP.wrAll (n := (lvD d).n) (sec := !j.second) hfits ps 1 (by omega) hpl).mono (B := fun p => allA j (!j.second) 1 M p ∨ clA j (!j.second) (1 + M) p ∨ wrA j (!j.second) 1 0 (unmarkL H) p) (fun _ h => .inl (by rw [← hM]; exact h))
    have x2 := (AddP.clean (n := (lvD d).n) (sec := !j.second) hfits (1 + M)).mono (B := fun p => allA j (!j.second) 1 M p ∨ clA j (!j.second) (1 + M) p ∨ wrA j (!j.second) 1 0 (unmarkL H) p) (fun _ h => .inr (.inl h))
    have x3 := (AddP.wr (n := (lvD d).n) (sec := !j.second) hfits 1 0 (unmarkL H) (by omega) hul).mono (B := fun p => allA j (!j.second) 1 M p ∨ clA j (!j.second) (1 + M) p ∨ wrA j (!j.second) 1 0 (unmarkL H) p) (fun _ h => .inr (.inr h))
    have x4 := (x1.bind x2).bind x3
    unfold anew1
    rw [hM, hH]
    exact x4
  have a2 := AddP.wr (n := (lvD d).n) (sec := !j.second) hfits 1 0 H (by omega) (by omega)
  have hsim := two_sim a1 a2 hd hn (by omega)
  obtain ⟨r, hr⟩ : ∃ r, twoP (anew1 j ps) (wrJ j (!j.second) 1 0 H) d = r := ⟨_, rfl⟩
  unfold Sim at hsim
  rw [hr] at hsim ⊢
  rcases hsim with ⟨b1, b2, b3⟩ | ⟨b1, b2, b3, b4, b5⟩
  · exact .inl ⟨b1, b2, by rw [b3]; exact h3⟩
  refine .inr ⟨b1, b2, b4, ?_⟩
  have hw0 : (lvD d).wait = [] := hi.wait
  have hl := halfL_len (sec := !j.second) hi.live.ok hfits j.half (Nat.le_refl _)
  obtain ⟨G, hG⟩ : ∃ G, halfL j (!j.second) (lvD d) j.half = G := ⟨_, rfl⟩
  have hGl : G.length = 64 * j.half := by rw [← hG]; exact hl
  obtain ⟨e1, e2⟩ := anew1_eff (j := j) hi.live hfits ps hpl (by omega) (A := G.take 64) (B := (G.drop 64).take (64 * sumM ps)) (C := (G.drop 64).drop (64 * sumM ps))
    (by rw [List.append_assoc, List.take_append_drop, List.take_append_drop]; exact hG) (by rw [List.length_take]; omega) (by rw [List.length_take, List.length_drop]; omega)
  rw [hH, hM] at e1
  obtain ⟨d3, hd3⟩ : ∃ d3, (bindE (anew1 j ps (lvD d)) flushR).1 = d3 := ⟨_, rfl⟩
  have e0 : bindE (anew1 j ps (lvD d)) flushR = (d3, 0) := Prod.ext hd3 e1.ok
  rw [e0] at e1 e2
  have hn3 : d3.n = (lvD d).n := e1.n
  have b5 : RA (fun p => allA j (!j.second) 1 M p ∨ clA j (!j.second) (1 + M) p ∨ wrA j (!j.second) 1 0 (unmarkL H) p) (lvD d) (lvD r.1) ∨ RA (wrA j (!j.second) 1 0 H) d3 (lvD r.1) := by
    rcases b5 with h | h
    · exact .inl h
    · rw [hd3] at h; exact .inr h
  have hl3 : Live d3 := e1.live
  have hat3 : atJ j (!j.second) 0 < d3.n := by rw [hn3]; exact at_lt hfits (by omega)
  rcases b5 with hR | hR
  · have hnr : r.1.n = (lvD d).n := hR.n
    refine ⟨hnr, fun keep torn ht => .inl ?_⟩
    obtain ⟨c1, c2, c3⟩ := crash_live b4 b3 keep ht
    refine hi.keep2 c1 c3 (c2.trans hnr) (fun i hx => ?_) ?_
    · refine crash_read hR hw0 b4 keep ht (by rw [hnr]; exact at_lt hfits hx) (fun x => x = readL (lvD d) (atJ j j.second i)) rfl fun x _ _ p hp hpq t _ => ?_
      rcases hp with ⟨k, hk, e⟩ | ⟨hk, e⟩ | ⟨k, hk, e, _⟩
      · exact absurd (hpq.symm.trans e) (at_ne hx (by omega))
      · rw [e] at hpq; exact absurd hpq.symm (at_ne hx hk)
      · exact absurd (hpq.symm.trans e) (at_ne hx (by omega))
    · have hq := crash_read hR hw0 b4 keep ht (q := atJ j (!j.second) 0) (by rw [hnr]; exact at_lt hfits (by omega)) (fun x => x = readL (lvD d) (atJ j (!j.second) 0) ∨ ∃ q, x = 0 :: q) (.inl rfl) fun x hx _ p hp hpq t _ => ?_
      · obtain ⟨R, q1, q2, _⟩ := half_split j (!j.second) (crashD r.1 keep torn) j.half 0 (by omega)
        obtain ⟨R1, q3⟩ := q2 (by omega)
        rw [q1, q3]
        rw [show halfL j (!j.second) (crashD r.1 keep torn) 0 = [] from rfl, List.nil_append]
        rcases hq with hq | ⟨y, hq⟩
        · rw [hq]
          obtain ⟨R2, p1, p2, _⟩ := half_split j (!j.second) (lvD d) j.half 0 (by omega)
          obtain ⟨R3, p3⟩ := p2 (by omega)
          have ho := hi.other
          rw [p1, p3, show halfL j (!j.second) (lvD d) 0 = [] from rfl, List.nil_append] at ho
          rw [epN_head64 _ _ R3 (readL_len hi.live.ok (at_lt hfits (by omega)))]
          exact ho
        · rw [hq, List.cons_append, epN_unmarked]; omega
      · rcases hp with ⟨k, hk, e⟩ | ⟨hk, e⟩ | ⟨k, hk, e, e2⟩
        · have := at_inj (hpq.symm.trans e); omega
        · rw [e] at hpq; have := at_inj hpq; omega
        · obtain rfl : k = 0 := by omega
          rw [e2, show 64 * 0 = 0 from rfl, show 0 + 64 = 64 from rfl, sub_unmark (by omega)]
          cases t with
          | zero => rw [List.take_zero, List.nil_append, List.drop_zero]; exact hx
          | succ t => exact .inr ⟨_, rfl⟩
  · have hnr : r.1.n = d3.n := hR.n
    refine ⟨hnr.trans hn3, fun keep torn ht => ?_⟩
    obtain ⟨c1, c2, c3⟩ := crash_live b4 b3 keep ht
    have hu : readL d3 (atJ j (!j.second) 0) = 0 :: H.drop 1 := by
      obtain ⟨R3, q1, q2, _⟩ := half_split j (!j.second) d3 j.half 0 (by omega)
      obtain ⟨R4, q4⟩ := q2 (by omega)
      have hh := e1.half
      rw [q1, q4, show halfL j (!j.second) d3 0 = [] from rfl, List.nil_append] at hh
      obtain ⟨hh1, _⟩ := List.append_inj hh (by rw [readL_len hl3.ok hat3]; omega)
      rw [hh1]
      have := sub_unmark (s := H) (by omega)
      rw [hHs] at this
      rw [← this]
      unfold sub; rw [List.drop_zero, List.take_of_length_le (by omega)]
    have h3i : JInv j d3 recs := by
      refine hi.keep2 hl3 e2 hn3 (fun i hx => e1.out _ ?_ (at_lt hfits hx)) ?_
      · unfold atJ; cases j.second <;> simp <;> omega
      · rw [e1.half]
        show epN (unmarkL H ++ _) < j.epoch
        unfold unmarkL
        rw [List.cons_append, epN_unmarked]; omega
    rcases crash_two hR e2 b4 keep ht (by rw [hnr]; exact hat3) hHl hu with h | h
    · exact .inl (h3i.same c1 c3 (c2.trans hnr) fun q hq => h q (by rw [hnr]; exact hq))
    · have hf : twoP (anew1 j ps) (wrJ j (!j.second) 1 0 H) (lvD d) = bindE (wrJ j (!j.second) 1 0 H d3) flushR := by
        unfold twoP
        rw [e0, bindE_ok rfl]
      obtain ⟨t1, t2⟩ := two_reads hl3 hat3 hHl
      rw [hf] at h3
      refine .inr (h3.same c1 c3 ((c2.trans hnr).trans t1.symm) fun q hq => ?_)
      rw [t1] at hq
      rw [h q (by rw [hnr]; exact hq), t2 q hq]
end Go.Proofs.YtcbepjepcabllaaGreatDoor
/- A journal's Append where the power may go. -/
set_option linter.unusedVariables false
set_option linter.unusedSimpArgs false
namespace Go.Proofs.YtcbepjepcabllaaGreatDoor
open Go Go.RowKit
theorem JAt.set7 {w : World} {bj bd : Nat} {j : JrnS} (h : JAt w bj bd j) (x : Bool) : JAt (w.setCell ⟨bj, 7, none⟩ (.bool x)) bj bd { j with closed := x } := by unfold JAt; rw [heap_setCell_any w bj 7 _ _ _ _ h]; rfl
theorem FaultAt.k {w0 w w' : World} {S : List Nat} {b : Nat} {c a : Int} (h : FaultAt w b c a) (hk : K w0 S w w') (hs : b ∉ S) : FaultAt w' b c a := hk.heap hs (by decide) h
set_option maxHeartbeats 1000000 in
theorem broken_any {w0 w : World} {bj bd bp gh : Nat} {j : JrnS} {d : DskS} (b : Nat) (c : Int) (h : JD w0 w bj bd bp gh j d) (hf : FaultAt w b c 0) (he : ErrT w0) (hq0 : Q w0 w) :
    Calls Tryz.prog 47 #[.pointer (some ⟨bj, 0, none⟩), .iface 84 (.pointer (some ⟨b, 0, none⟩))] w fun e w' => (∃ b', e = .returned (.iface 84 (.pointer (some ⟨b', 0, none⟩))) ∧ WrapAt w' b' c) ∧ JD w0 w' bj bd bp gh { j with closed := true } d ∧ K w0 [bj] w w' := by
  have c7 := h.j.c7
  have f7 := h.j.fz 7
  have hne : b ≠ bj := by
    intro e
    subst e
    have h1 := elemT_of hf
    have h2 := elemT_of h.j
    rw [h1] at h2
    revert h2; decide
  obtain ⟨hs1, hs2⟩ := h.set 7 (.bool true) (h.j.set7 true)
  have hf1 := hf.k hs2 (by simpa using hne)
  have hq1 : Q w0 (w.setCell ⟨bj, 7, none⟩ (.bool true)) := hs2.toQ hq0 (by simpa using h.n)
  have HW := Lib.hid (jwrap_any b c (w.setCell ⟨bj, 7, none⟩ (.bool true)) hf1 (he.q hq1))
  have HJ := Lib.hid hs1
  have HK := Lib.hid hs2
  clear h hf hs1 hs2 hf1 hq1
  go_enter Tryz.func47, Tryz.ntmps47
  go_wp2_with fail
  refine HW.out.mono ?_
  rintro e w1 ⟨⟨b', rfl, hb⟩, hq⟩
  have HB := Lib.hid hb
  have HQ := Lib.hid hq
  clear hb hq HW
  go_wp2_with fail
  go_ret
  exact ⟨⟨b', rfl, HB.out⟩, HJ.out.q HQ.out, HK.out.trans (K.q HQ.out)⟩
set_option maxRecDepth 100000 in
set_option maxHeartbeats 4000000 in
theorem Append_raw {w0 w : World} {bj bd bp gh : Nat} {j : JrnS} {d : DskS} (p : List UInt8) (h : JD w0 w bj bd bp gh j d) (ho : j.Ok) (hcl : j.closed = false) (hp : p.length ≤ 60000) (hfit : j.next + wantN p ≤ j.half) (hw : d.wait.length ≤ 900000) (he : ErrT w0) (hq0 : Q w0 w) :
    Calls Tryz.prog 19 #[.pointer (some ⟨bj, 0, none⟩), .string ⟨p.toArray⟩] w fun e w' => (((layJ j j.second j.next (wantN p) (recL j p) d).2 = 0 ∧ e = .returned .nilIface ∧ JD w0 w' bj bd bp gh { j with many := j.many + 1, next := j.next + wantN p } (layJ j j.second j.next (wantN p) (recL j p) d).1) ∨
      ((layJ j j.second j.next (wantN p) (recL j p) d).2 ≠ 0 ∧ (∃ b, e = .returned (.iface 84 (.pointer (some ⟨b, 0, none⟩))) ∧ WrapAt w' b (layJ j j.second j.next (wantN p) (recL j p) d).2) ∧ JD w0 w' bj bd bp gh { j with closed := true } (layJ j j.second j.next (wantN p) (recL j p) d).1)) ∧ K w0 [bj] w w' := by
  have HJ := Lib.hid h
  have HO := Lib.hid ho
  have HE := Lib.hid he
  have HQ0 := Lib.hid hq0
  have h0 := hq0.size
  have c7 := h.j.c7
  have c4 := h.j.c4
  have c5 := h.j.c5
  have o1 := ho.many
  have o2 := ho.epoch
  have o3 := ho.place
  have o4 := ho.next
  have hwn : wantN p ≤ 1000 := by unfold wantN; omega
  have hw1 : 1 ≤ wantN p := by unfold wantN; omega
  obtain ⟨D, hD⟩ : ∃ D, layJ j j.second j.next (wantN p) (recL j p) d = D := ⟨_, rfl⟩
  have HDD := Lib.hid hD
  rw [hD]
  rw [hcl] at c7
  have HF := Lib.hid hfit
  have g1 : decide (j.half - j.next < wantN p) = false := by simp; omega
  clear h ho he hq0 hD hcl hfit
  go_enter Tryz.func19, Tryz.ntmps19
  go_upto_region 3 with (fail)
  have k4 : ∀ m : QW w, m.val.cell? ⟨bj, 4, none⟩ = some (.int .i64 (j.epoch : Int)) := fun m => m.cell c4
  have k5 : ∀ m : QW w, m.val.cell? ⟨bj, 5, none⟩ = some (.int .i64 (j.many : Int)) := fun m => m.cell c5
  have m1 : (j.many : Int) ≤ 100000 := by omega
  have HPK : Hid (∀ w' : World, Calls Tryz.prog 33 #[.int .i64 (j.epoch : Int), .int .i64 ((j.many : Int) + 1), .string ⟨p.toArray⟩] w' fun x w'' => x = .returned (.tuple #[.string ⟨(recL j p).toArray⟩, .nilIface]) ∧ Q w' w'') :=
    Lib.hid (fun w' => Pack_ok (j.epoch : Int) ((j.many : Int) + 1) p w' hp (decide_eq_true ⟨by omega, by omega, by omega, by omega⟩))
  have HLN := Lib.hid (recL_len j p)
  obtain ⟨s, hs⟩ : ∃ s, recL j p = s := ⟨_, rfl⟩
  rw [hs] at HPK HLN HDD
  clear c4 c5 c7 hs
  refine wp_region_q (by kernel_rfl) (by kernel_rfl) ?_
  (repeat (go_big_quiet_step ((go_at_call 33; exact calls_q (HPK.out _)))))
  refine wpQuiet_nil ?_
  rintro wa ⟨ma, hma⟩
  have hqa : Q w wa := by rw [hma]; exact ma.le
  have HJa := Lib.hid (HJ.out.q hqa)
  have HQa := Lib.hid hqa
  have h0a := Nat.le_trans h0 hqa.size
  have hdv : (s.length : Int) / 64 = (wantN p : Int) := by have := HLN.out; omega
  clear hma ma hqa k4 k5 HPK
  go_wp2_with fail
  refine (Left_any HJa.out.j HO.out).mono ?_
  rintro e w2 ⟨rfl, hq2⟩
  have HJ2 := Lib.hid (HJa.out.q hq2)
  have HQ2 := Lib.hid (HQa.out.trans hq2)
  have h02 := Nat.le_trans h0a hq2.size
  clear hq2 hdv
  go_upto_region 9 with (fail)
  have k3 : ∀ m : QW w2, m.val.cell? ⟨bj, 3, none⟩ = some (.bool j.second) := fun m => m.cell HJ2.out.j.c3
  have k6 : ∀ m : QW w2, m.val.cell? ⟨bj, 6, none⟩ = some (.int .i64 (j.next : Int)) := fun m => m.cell HJ2.out.j.c6
  refine wp_region_q_tail 10 (by kernel_rfl) (by kernel_rfl) ?_
  simp only [List.take_succ_cons, List.take_zero, List.drop_succ_cons, List.drop_zero]
  (repeat (go_big_quiet_step (fail)))
  refine wpQuiet_nil ?_
  rintro wb ⟨mb, hmb⟩
  have hqb : Q w2 wb := by rw [hmb]; exact mb.le
  have HJb := Lib.hid (HJ2.out.q hqb)
  have HQb := Lib.hid (HQ2.out.trans hqb)
  have h0b := Nat.le_trans h02 hqb.size
  clear hmb mb hqb k3 k6 g1
  go_wp2_with fail
  refine (lay_any j.second j.next (wantN p) s HJb.out HLN.out (by omega) (by have := HF.out; omega) (by omega) h0b).mono ?_
  rintro e w4 ⟨⟨v, rfl, hv⟩, hd, hk⟩
  rw [HDD.out] at hv hd
  have HD4 := Lib.hid hd
  have HK4 := Lib.hid (((K.q (w0 := w0) (S := []) HQb.out).trans hk).mono (S' := [bj]) (by simp))
  clear hd hk HJb HQb HJ2 HQ2 HJa HQa
  rcases hv with ⟨hc, rfl⟩ | ⟨hc, b, rfl, hf⟩
  case inr =>
    have HB := Lib.hid (broken_any b D.2 HD4.out hf HE.out (HK4.out.toQ HQ0.out (by simpa using HJ.out.n)))
    have HC := Lib.hid hc
    clear hf hc
    go_wp2_with fail
    refine HB.out.mono ?_
    rintro e w5 ⟨⟨b', rfl, hb⟩, hd5, hk5⟩
    have HB5 := Lib.hid hb
    have HD5 := Lib.hid hd5
    have HK5 := Lib.hid (HK4.out.trans hk5)
    clear hb hd5 hk5 HB
    go_wp2_with fail
    go_ret
    exact ⟨.inr ⟨HC.out, ⟨b', rfl, HB5.out⟩, HD5.out⟩, HK5.out⟩
  have HC := Lib.hid hc
  clear hc
  have c5 := HD4.out.j.c5
  have f5 := HD4.out.j.fz 5
  have m1 : (j.many : Int) ≤ 100000 := by omega
  obtain ⟨hs1, hs2⟩ := HD4.out.set 5 (.int .i64 ((j.many + 1 : Nat) : Int)) (HD4.out.j.set5 (j.many + 1))
  go_upto_region 13 with (fail)
  rw [show ((j.many + 1 : Nat) : Int) = (j.many : Int) + 1 by omega] at hs1 hs2
  obtain ⟨W5, hW5⟩ : ∃ W, w4.setCell ⟨bj, 5, none⟩ (.int .i64 ((j.many : Int) + 1)) = W := ⟨_, rfl⟩
  rw [hW5] at hs1 hs2 ⊢
  have HD5 := Lib.hid hs1
  have HK5 := Lib.hid (HK4.out.trans hs2)
  have c6 := HD5.out.j.c6
  have f6 := HD5.out.j.fz 6
  simp only at c6
  have m2 : (j.next : Int) ≤ 8192 := by omega
  have m3 : (wantN p : Int) ≤ 1000 := by omega
  obtain ⟨hs3, hs4⟩ := HD5.out.set 6 (.int .i64 ((j.next + wantN p : Nat) : Int)) (HD5.out.j.set6 (j.next + wantN p))
  rw [show ((j.next + wantN p : Nat) : Int) = (j.next : Int) + (wantN p : Int) by omega] at hs3 hs4
  have HD6 := Lib.hid hs3
  have HK6 := Lib.hid (HK5.out.trans hs4)
  clear hs1 hs2 hs3 hs4 hW5 c5 f5 HD4 HK4
  go_wp2_with fail
  go_ret
  exact ⟨.inl ⟨HC.out, rfl, HD6.out⟩, HK6.out⟩
end Go.Proofs.YtcbepjepcabllaaGreatDoor
/- A journal's Reset where the power may go. -/
set_option linter.unusedVariables false
set_option linter.unusedSimpArgs false
namespace Go.Proofs.YtcbepjepcabllaaGreatDoor
open Go Go.RowKit
set_option maxRecDepth 100000 in
set_option maxHeartbeats 4000000 in
theorem Reset_raw {w0 w : World} {bj bd bp gh : Nat} {j : JrnS} {d : DskS} (v : Value) (ls : List (List UInt8)) (h : JD w0 w bj bd bp gh j d) (hs : StrS w v ls) (hl : ∀ p ∈ ls, p.length ≤ 60000) (ho : j.Ok) (hcl : j.closed = false) (he : j.epoch < 4611686018427387904) (hm : wantS ls + 1 ≤ j.half) (hll : ls.length ≤ 100000) (hw : d.wait.length ≤ 900000) (het : ErrT w0) (hq0 : Q w0 w) :
    Calls Tryz.prog 22 #[.pointer (some ⟨bj, 0, none⟩), v] w fun e w' => (((resetD j ls d).2 = 0 ∧ e = .returned .nilIface ∧ JD w0 w' bj bd bp gh (resetJ j ls) (resetD j ls d).1) ∨ ((resetD j ls d).2 ≠ 0 ∧ (∃ b, e = .returned (.iface 84 (.pointer (some ⟨b, 0, none⟩))) ∧ WrapAt w' b (resetD j ls d).2) ∧ JD w0 w' bj bd bp gh { j with closed := true } (resetD j ls d).1)) ∧ K w0 [bj] w w' := by
  have h0 := hq0.size
  have HET := Lib.hid het
  have HQ0 := Lib.hid hq0
  have HJ := Lib.hid h
  have HS := Lib.hid hs
  have HL := Lib.hid hl
  have ho1 := ho.place
  have hlz : (ls.length : Int) ≤ 100000 := by omega
  have HO := Lib.hid ho
  obtain ⟨A, cap, rfl, hst, hty⟩ := hs
  obtain ⟨N, hN⟩ : ∃ N, ls.length = N := ⟨_, rfl⟩
  have HN := Lib.hid hN
  rw [hN] at hll hlz HS ⊢
  have c7 := h.j.c7
  have c4 := h.j.c4
  rw [hcl] at c7
  have HCL := Lib.hid hcl
  have HM := Lib.hid hm
  have g0 : decide (4611686018427387904 ≤ (j.epoch : Int)) = false := by simp; omega
  have he2 : (j.epoch : Int) < 4611686018427387904 := by omega
  have HOS0 := Lib.hid (OwnS.nil 9 w w)
  obtain ⟨D, hD⟩ : ∃ D, resetD j ls d = D := ⟨_, rfl⟩
  have HDD := Lib.hid hD
  rw [hD]
  clear h hl ho hst hty hN hm hcl he hD het hq0
  go_enter Tryz.func22, Tryz.ntmps22
  go_wp2_with fail
  go_loopw [5, 6, 25] (fun lv zv iv wr => ∃ (i z : Nat), i ≤ N ∧ z ≤ 8192 ∧ zv = .int .i64 (z : Int) ∧ iv = .int .i64 (i : Int) ∧ Hid (z = wantS (ls.take i)) ∧ Hid (OwnS 9 w wr lv ((packsL (j.epoch + 1) 0 (ls.take i)).map strV)) ∧ Hid (JD w0 wr bj bd bp gh j d) ∧ Hid (Q w wr)) (fun _ _ iv _ => N - (intOf iv).toNat)
  case atStart => exact ⟨0, 0, by omega, by omega, rfl, rfl, rfl, HOS0.out, HJ.out, Q.refl _⟩
  case round =>
    obtain ⟨i, z, hi, hz, rfl, rfl, HZZ, HOS, HD, HQ⟩ := hrel
    by_cases hlt : i < N
    · have g1 : decide (i < N) = true := decide_eq_true hlt
      obtain ⟨A2, cap2, e2, hst, hty⟩ := HS.out.q HQ.out
      have hst2 : StrsAt wr A N ls := by rw [← HN.out]; injection e2 with e2 _ _; rw [e2]; exact hst
      obtain ⟨ad, rfl, hc⟩ := hst2.at hlt
      obtain ⟨p, hp⟩ : ∃ s, gL ls i = s := ⟨_, rfl⟩
      have hln := HN.out
      have hpe : ls[i]'(by omega) = p := by rw [← hp]; simp [gL, List.getD, show i < ls.length by omega]
      have htk : ls.take (i + 1) = ls.take i ++ [p] := by rw [← hpe, List.take_succ_eq_append_getElem (by omega)]
      have hpm : p ∈ ls := by rw [← hpe]; exact List.getElem_mem _
      have hpl := HL.out p hpm
      have hw2 := wantS_take ls (i + 1)
      have HM2 := HM.out
      rw [hp] at hc
      have hz2 : z + wantN p = wantS (ls.take (i + 1)) := by rw [htk, wantS_snoc, HZZ.out]
      have hz3 : z + wantN p ≤ 8192 := by omega
      have hll2 : ((packsL (j.epoch + 1) 0 (ls.take i)).map strV).length ≤ 1000000 := by rw [List.length_map, packsL_len, List.length_take]; omega
      have hps : packsL (j.epoch + 1) 0 (ls.take (i + 1)) = packsL (j.epoch + 1) 0 (ls.take i) ++ [packL ((j.epoch : Int) + 1) ((i : Int) + 1) p] := by
        rw [htk, packsL_snoc, List.length_take, show min i ls.length = i by omega, Nat.zero_add]; rfl
      have HPS := Lib.hid hps
      have HZ2 := Lib.hid hz2
      have HLL := Lib.hid hll2
      have hlen := packL_len64 ((j.epoch : Int) + 1) ((i : Int) + 1) p
      have hib : (i : Int) ≤ 100000 := by omega
      have HPK := Lib.hid (Pack_ok ((j.epoch : Int) + 1) ((i : Int) + 1) p wr hpl (decide_eq_true ⟨by omega, by omega, by omega, by omega⟩))
      obtain ⟨s, hs⟩ : ∃ s, packL ((j.epoch : Int) + 1) ((i : Int) + 1) p = s := ⟨_, rfl⟩
      rw [hs] at HPK HPS hlen
      have hdv : (s.length : Int) / 64 = (wantN p : Int) := by omega
      have hz4 : (z : Int) + (wantN p : Int) ≤ 8192 := by omega
      have c4 := HD.out.j.c4
      clear hst hty hst2 e2 hln hpe htk hpm hpl hw2 HM2 hp hz2 hz3 hll2 hps hlen hs HZZ
      go_wp2_with fail
      refine HPK.out.mono ?_
      rintro e w1 ⟨rfl, hq⟩
      have HD1 := Lib.hid (HD.out.q hq)
      have HQ1 := Lib.hid (HQ.out.trans hq)
      have HO1 := Lib.hid (HOS.out.q hq)
      clear hq HD HQ HOS HPK c4
      go_upto_region 14 with (at_builtin; refine wpList_append_s rfl (.tmp 45) (.tmp 47) rfl w w1 _ _ s (by rfl) HO1.out (by rfl) (by exact HQ1.out.size) HLL.out ?_; intro v5 w5 ho5 hg5)
      have HO5 : Hid (OwnS 9 w w5 v5 ((packsL (j.epoch + 1) 0 (ls.take (i + 1))).map strV)) := Lib.hid (by rw [HPS.out, List.map_append]; exact ho5)
      have HD5 := Lib.hid (HD1.out.gbo HO1.out hg5)
      have HQ5 := Lib.hid (gb_q_own hg5 HQ1.out (fun k hk => HO1.out.block hk))
      clear ho5 hg5 HD1 HQ1 HO1
      go_wp2_with fail
      go_roundw
      case rel => exact ⟨i + 1, z + wantN p, by omega, by omega, by go_num, by go_num, HZ2.out, HO5.out, HD5.out, HQ5.out⟩
      case measure => simp [intOf]; omega
    · have g1 : decide (i < N) = false := decide_eq_false hlt
      obtain rfl : i = N := by omega
      rw [List.take_of_length_le (by rw [HN.out]; exact Nat.le_refl _)] at HZZ HOS
      have hzz : z = wantS ls := HZZ.out
      have HZF := Lib.hid hzz
      have g2 : decide (j.half - 1 < z) = false := by have := HM.out; simp; omega
      have HHF := Lib.hid (Half_any HD.out.j HO.out)
      have h0r := Nat.le_trans h0 HQ.out.size
      obtain ⟨h1, hh1⟩ : ∃ h, j.half - 1 = h := ⟨_, rfl⟩
      rw [hh1] at HHF g2
      have HANW := Lib.hid (fun v (hs : StrS wr v (packsL (j.epoch + 1) 0 ls)) => anew_any v _ HD.out hs (packsL_mem _ _ HL.out 0) HO.out (by omega) (by rw [wantS_packs]; exact HM.out) (by rw [packsL_len, HN.out]; exact hll) hw h0r)
      have HLV : Hid (StrS wr u5 (packsL (j.epoch + 1) 0 ls)) := Lib.hid HOS.out.toS
      obtain ⟨A5, c5, e5, _, _⟩ := HLV.out
      rw [packsL_len, HN.out] at e5
      subst e5
      clear hzz hh1 HZZ hlt HOS
      go_wp2_with fail
      refine HHF.out.mono ?_
      rintro e w1 ⟨rfl, rfl⟩
      go_wp2_with fail
      refine (HANW.out _ HLV.out).mono ?_
      rintro e w2 ⟨⟨v, rfl, hv⟩, hd, hk⟩
      have hv : ErrIs w2 v (resetD j ls d).2 0 := hv
      have hd : JD w0 w2 bj bd bp gh j (resetD j ls d).1 := hd
      rw [HDD.out] at hd hv
      rcases hv with ⟨hcz, rfl⟩ | ⟨hcz, b, rfl, hf⟩
      case inr =>
        have HC := Lib.hid hcz
        have HD2 := Lib.hid hd
        have HK2 := Lib.hid (((K.q (w0 := w0) (S := []) HQ.out).trans hk).mono (S' := [bj]) (by simp))
        have HBK := Lib.hid (broken_any b D.2 HD2.out hf HET.out (HK2.out.toQ HQ0.out (by simpa using HJ.out.n)))
        clear hf hcz hd hk HANW HLV HD HQ
        go_wp2_with fail
        refine HBK.out.mono ?_
        rintro e w5 ⟨⟨b', rfl, hb⟩, hd5, hk5⟩
        have HB5 := Lib.hid hb
        have HD5 := Lib.hid hd5
        have HK5 := Lib.hid (HK2.out.trans hk5)
        clear hb hd5 hk5 HBK
        go_wp2_with fail
        go_ret
        exact ⟨.inr ⟨HC.out, ⟨b', rfl, HB5.out⟩, HD5.out⟩, HK5.out⟩
      have HC := Lib.hid hcz
      clear hcz
      have HD2 := Lib.hid hd
      have HK2 := Lib.hid (((K.q (w0 := w0) (S := []) HQ.out).trans hk).mono (S' := [bj]) (by simp))
      clear hd hk HANW HLV HD HQ HJ
      have c3 := HD2.out.j.c3
      have f3 := HD2.out.j.fz 3
      obtain ⟨hs1, hs2⟩ := HD2.out.set 3 (.bool (!j.second)) (HD2.out.j.set3 (!j.second))
      go_upto_region 22 with (fail)
      obtain ⟨W3, hW3⟩ : ∃ W, w2.setCell ⟨bj, 3, none⟩ (.bool (!j.second)) = W := ⟨_, rfl⟩
      rw [hW3] at hs1 hs2 ⊢
      have HD3 := Lib.hid hs1
      have HK3 := Lib.hid (HK2.out.trans hs2)
      clear hs1 hs2 hW3 c3 f3 HD2 HK2
      have c4 := HD3.out.j.c4
      have f4 := HD3.out.j.fz 4
      simp only at c4
      obtain ⟨hs1, hs2⟩ := HD3.out.set 4 (.int .i64 ((j.epoch + 1 : Nat) : Int)) (HD3.out.j.set4 (j.epoch + 1))
      rw [show ((j.epoch + 1 : Nat) : Int) = (j.epoch : Int) + 1 by omega] at hs1 hs2
      go_upto_region 23 with (fail)
      obtain ⟨W4, hW4⟩ : ∃ W, W3.setCell ⟨bj, 4, none⟩ (.int .i64 ((j.epoch : Int) + 1)) = W := ⟨_, rfl⟩
      rw [hW4] at hs1 hs2 ⊢
      have HD4 := Lib.hid hs1
      have HK4 := Lib.hid (HK3.out.trans hs2)
      clear hs1 hs2 hW4 c4 f4 HD3 HK3
      obtain ⟨hs1, hs2⟩ := HD4.out.set 5 (.int .i64 (i : Int)) (HD4.out.j.set5 i)
      obtain ⟨hs3, hs4⟩ := hs1.set 6 (.int .i64 ((1 + z : Nat) : Int)) (hs1.j.set6 (1 + z))
      rw [show ((1 + z : Nat) : Int) = 1 + (z : Int) by omega] at hs3 hs4
      have k5 := HD4.out.j.c5
      have k6 := HD4.out.j.c6
      simp only at k5 k6
      have f5 := HD4.out.j.fz 5
      have f6 := hs1.j.fz 6
      have HD5 := Lib.hid hs3
      have HK5 := Lib.hid (HK4.out.trans (hs2.trans hs4))
      clear hs1 hs2 hs3 hs4
      go_wp2_with fail
      go_ret
      have he : resetJ j ls = { j with second := !j.second, epoch := j.epoch + 1, many := i, next := 1 + z } := by unfold resetJ; rw [HN.out, ← HZF.out]
      exact ⟨.inl ⟨HC.out, rfl, by rw [he]; exact HD5.out⟩, HK5.out⟩
end Go.Proofs.YtcbepjepcabllaaGreatDoor
/- The law's known(). -/
set_option linter.unusedVariables false
set_option linter.unusedSimpArgs false
namespace Go.Proofs.YtcbepjepcabllaaGreatDoor
open Go Go.RowKit
theorem StrS_new (W : World) (ls : List (List UInt8)) (cap : Nat) : StrS (W.alloc (.cells (ls.map strV).toArray 9)) (.slice (some ⟨W.heap.size, 0, none⟩) ls.length cap) ls := by
  have hh : (W.alloc (.cells (ls.map strV).toArray 9)).heap[W.heap.size]? = some (.cells (ls.map strV).toArray 9 (0, 0)) := (MapKept.heap_alloc W _).1
  refine ⟨_, cap, rfl, StrsAt_new W _ ls, fun ad e => ?_⟩
  injection e with e
  subst e
  exact ⟨elemT_of hh, lt_of_heap hh⟩
theorem rack_live {w w1 : World} {bd bp gh : Nat} (h : DAt w w1 bd bp gh newD) : DAt w w1 bd bp gh newD ∧ Live newD ∧ newD.wait = [] := ⟨h, live_new, rfl⟩
set_option maxRecDepth 100000 in
set_option maxHeartbeats 8000000 in
theorem known_any (w : World) : Calls Tryz.prog 4 #[] w fun e w' => e = .returned (.bool true) ∧ Q w w' := by
  go_enter Tryz.func4, Tryz.ntmps4
  go_wp2_with fail
  refine (rack_any w).mono ?_
  rintro e w1 ⟨⟨bd, bp, gh, rfl, hd⟩, hq1⟩
  have HQ1 := Lib.hid hq1
  have HF : Hid (Calls Tryz.prog 10 #[.pointer (some ⟨bd, 0, none⟩), .int .i64 4, .int .i64 10] w1 _) := Lib.hid (Format_inv 4 5 (rack_live hd) (by decide) (by rw [newD_n]; decide) hq1.size)
  clear hd hq1
  go_wp2_with fail
  refine HF.out.mono ?_
  rintro e w2 ⟨bj, d2, rfl, hj, _, hb, hk⟩
  have HJ2 := Lib.hid hj
  have HQ2 := Lib.hid (hk.toQ HQ1.out (by simp))
  have HB : Hid (w.heap.size ≤ bj) := Lib.hid (Nat.le_trans HQ1.out.size hb)
  clear hj hk HF HQ1 hb
  go_wp2_with fail
  refine (Left_inv HJ2.out).mono ?_
  rintro e w3 ⟨rfl, hq⟩
  have HJ3 := Lib.hid (HJ2.out.q hq)
  have HQ3 := Lib.hid (HQ2.out.trans hq)
  clear hq HJ2 HQ2
  rw [show ((5 - (1 + wantS []) : Nat) : Int) = 4 from rfl]
  go_wp2_with fail
  refine (Half_inv HJ3.out).mono ?_
  rintro e w4 ⟨rfl, rfl⟩
  rw [show ((5 - 1 : Nat) : Int) = 4 from rfl]
  go_wp2_with fail
  refine (Epoch_inv HJ3.out).mono ?_
  rintro e w4 ⟨rfl, rfl⟩
  rw [show ((1 : Nat) : Int) = 1 from rfl]
  go_wp2_with fail
  refine (Len_inv HJ3.out).mono ?_
  rintro e w4 ⟨rfl, rfl⟩
  rw [show ((([] : List (List UInt8)).length : Nat) : Int) = 0 from rfl]
  have h40 : (zL 40).length ≤ 60000 := by rw [length_zL]; decide
  have h41 : (zL 41).length ≤ 60000 := by rw [length_zL]; decide
  have n40 : wantN (zL 40) = 1 := by unfold wantN; rw [length_zL]
  have n41 : wantN (zL 41) = 2 := by unfold wantN; rw [length_zL]
  have N40 := Lib.hid n40
  have N41 := Lib.hid n41
  have L40 := Lib.hid h40
  have L41 := Lib.hid h41
  clear n40 n41 h40 h41
  go_wp2_with fail
  refine (text_any 40 w3 (by decide)).mono ?_
  rintro e w5 ⟨rfl, hq⟩
  have HJ5 := Lib.hid (HJ3.out.q hq)
  have HQ5 := Lib.hid (HQ3.out.trans hq)
  clear hq HJ3 HQ3
  go_wp2_with fail
  refine (Append_inv (zL 40) HJ5.out L40.out (by rw [N40.out]; decide) HQ5.out.size).mono ?_
  rintro e w6 ⟨d6, rfl, hj, _, hk⟩
  have HJ6 := Lib.hid hj
  have HQ6 : Hid (Q w w6) := Lib.hid (hk.toQ HQ5.out (by simpa using HB.out))
  clear hj hk HJ5 HQ5
  go_wp2_with fail
  refine (text_any 41 w6 (by decide)).mono ?_
  rintro e w7 ⟨rfl, hq⟩
  have HJ7 := Lib.hid (HJ6.out.q hq)
  have HQ7 := Lib.hid (HQ6.out.trans hq)
  clear hq HJ6 HQ6
  go_wp2_with fail
  refine (Append_inv (zL 41) HJ7.out L41.out (by rw [wantS_snoc, N41.out, N40.out]; decide) HQ7.out.size).mono ?_
  rintro e w8 ⟨d8, rfl, hj, _, hk⟩
  have HJ8 := Lib.hid hj
  have HQ8 : Hid (Q w w8) := Lib.hid (hk.toQ HQ7.out (by simpa using HB.out))
  clear hj hk HJ7 HQ7
  go_wp2_with fail
  refine (text_any 41 w8 (by decide)).mono ?_
  rintro e w9 ⟨rfl, hq⟩
  have HJ9 := Lib.hid (HJ8.out.q hq)
  have HQ9 := Lib.hid (HQ8.out.trans hq)
  clear hq HJ8 HQ8
  go_wp2_with fail
  refine (Append_full (zL 41) HJ9.out L41.out (by rw [wantS_snoc, wantS_snoc, N41.out, N40.out]; decide) HQ9.out.size).mono ?_
  rintro e w10 ⟨⟨v, rfl, hv⟩, hj, hk⟩
  have HJ10 := Lib.hid hj
  have HQ10 : Hid (Q w w10) := Lib.hid (hk.toQ HQ9.out (by simpa using HB.out))
  have HV := Lib.hid hv
  clear hj hk HJ9 HQ9 hv
  go_wp2_with fail
  refine (is_full v w10 HV.out).mono ?_
  rintro e w11 ⟨rfl, rfl⟩
  have HO : Hid (Calls Tryz.prog 21 #[.pointer (some ⟨bd, 0, none⟩), .int .i64 4, .int .i64 10] w10 _) := Lib.hid (Open_inv (f := 4) (half := 5) HJ10.out HQ10.out.size)
  go_wp2_with fail
  refine HO.out.mono ?_
  rintro e w12 ⟨bk, v12, rfl, hs, _, hj, _, hq⟩
  have HS12 := Lib.hid hs
  have HJ12 := Lib.hid hj
  have HQ12 := Lib.hid (HQ10.out.trans hq)
  clear hs hj hq HO HJ10 HQ10 HV
  have hq13 : Q w12 (w12.alloc (.cells ([[120]].map strV).toArray 9)) := (Q.refl _).alloc _
  have HS13 : Hid (StrS (w12.alloc (.cells #[.string ⟨#[120]⟩] 9)) (.slice (some ⟨w12.heap.size, 0, none⟩) 1 1) [[120]]) := Lib.hid (StrS_new w12 [[120]] 1)
  have HJ13 : Hid (JR w (w12.alloc (.cells #[.string ⟨#[120]⟩] 9)) bj bd bp gh 4 5 1 d8 _) := Lib.hid (HJ12.out.q hq13)
  have HQ13 : Hid (Q w (w12.alloc (.cells #[.string ⟨#[120]⟩] 9))) := Lib.hid (HQ12.out.trans hq13)
  have HT13 : Hid (StrS (w12.alloc (.cells #[.string ⟨#[120]⟩] 9)) v12 _) := Lib.hid (HS12.out.q hq13)
  have hpx : wantS [[120]] + 1 ≤ 5 := by decide
  clear hq13 HJ12 HQ12 HS12
  go_wp2_with fail
  generalize w12.alloc (.cells #[.string ⟨#[120]⟩] 9) = W13 at HS13 HJ13 HQ13 HT13 ⊢
  refine (Reset_inv _ [[120]] HJ13.out HS13.out (by simp) hpx (by decide) HQ13.out.size).mono ?_
  rintro e w14 ⟨d14, rfl, hj, _, hk⟩
  have HJ14 := Lib.hid hj
  have HQ14 : Hid (Q w w14) := Lib.hid (hk.toQ HQ13.out (by simpa using HB.out))
  have HT14 := Lib.hid (HT13.out.kr hk HJ13.out)
  clear hj hk HJ13 HQ13 HS13 HT13 hpx
  have HO : Hid (Calls Tryz.prog 21 #[.pointer (some ⟨bd, 0, none⟩), .int .i64 4, .int .i64 10] w14 _) := Lib.hid (Open_inv (f := 4) (half := 5) HJ14.out HQ14.out.size)
  go_wp2_with fail
  refine HO.out.mono ?_
  rintro e w15 ⟨bk2, v15, rfl, hs, _, hj, _, hq⟩
  have HJ15 := Lib.hid hj
  have HQ15 := Lib.hid (HQ14.out.trans hq)
  obtain ⟨A1, c1, rfl, hst1, _⟩ := HT14.out.q hq
  obtain ⟨A2, c2, rfl, hst2, _⟩ := hs
  clear hj hq HO HJ14 HQ14 HT14
  obtain ⟨ad1, rfl, hc1⟩ := hst1.at (i := 1) (by decide)
  obtain ⟨ad2, rfl, hc2⟩ := hst2.at (i := 0) (by decide)
  clear hst1 hst2
  obtain ⟨z, hz⟩ : ∃ z, zL 41 = z := ⟨_, rfl⟩
  have hzl : z.length = 41 := by rw [← hz, length_zL]
  have e1 : gL ([] ++ [zL 40] ++ [zL 41]) 1 = z := hz
  have e2 : gL ([[120]] : List (List UInt8)) 0 = [120] := rfl
  have e3 : ([] ++ [zL 40] ++ [zL 41] : List (List UInt8)).length = 2 := rfl
  have e4 : ([[120]] : List (List UInt8)).length = 1 := rfl
  rw [e1] at hc1
  rw [e2] at hc2
  rw [e3, e4]
  clear e1 e2 e3 e4 hz
  have hc1 : w15.cell? ⟨ad1.block, ad1.off + 1, none⟩ = some (.string ⟨z.toArray⟩) := by simpa [Addr.add] using hc1
  have hc2 : w15.cell? ad2 = some (.string ⟨#[120]⟩) := by simpa [Addr.add] using hc2
  have hzi : (z.length : Int) = 41 := by omega
  have g41 : ((z.length : Int) == 41) = true := by simp; omega
  clear hzl hzi
  go_wp2_with fail
  refine (Epoch_inv HJ15.out).mono ?_
  rintro e w16 ⟨rfl, rfl⟩
  rw [show ((1 + 1 : Nat) : Int) = 2 from rfl]
  go_wp2_with fail
  refine (Left_inv HJ15.out).mono ?_
  rintro e w17 ⟨rfl, hq⟩
  have HJ17 := Lib.hid (HJ15.out.q hq)
  have HQ17 := Lib.hid (HQ15.out.trans hq)
  have hc3 : w17.cell? ad2 = some (.string ⟨#[120]⟩) := hq.cell hc2
  clear hc1 hc2 hq HJ15 HQ15
  rw [show ((5 - (1 + wantS [[120]]) : Nat) : Int) = 3 from rfl]
  go_wp2_with fail
  refine (Len_inv HJ17.out).mono ?_
  rintro e w18 ⟨rfl, rfl⟩
  rw [show (([[120]] : List (List UInt8)).length : Int) = 1 from rfl]
  go_wp2_with fail
  go_ret
  exact ⟨rfl, HQ17.out⟩
end Go.Proofs.YtcbepjepcabllaaGreatDoor
/- A journal that holds records, on a disk with a fuse; Open behind a crash; errors.Is of what broken makes. -/
set_option linter.unusedVariables false
set_option linter.unusedSimpArgs false
namespace Go.Proofs.YtcbepjepcabllaaGreatDoor
open Go Go.RowKit
theorem lvD_inv {j : JrnS} {d : DskS} {recs : List (List UInt8)} (h : JInv j d recs) (f : Int) (hf : -1 ≤ f ∧ f ≤ 9223372036854775807) : OnD { d with fuse := f } ∧ JInv j (lvD { d with fuse := f }) recs := by
  have ho : OnD { d with fuse := f } := ⟨h.live.gone, h.live.dead, ⟨h.live.ok.len, h.live.ok.most, hf, h.live.ok.wait⟩⟩
  exact ⟨ho, h.same ho.live h.wait rfl fun q hq => rfl⟩
theorem bindE_wait {r : DskS × Int} {f : DskS → DskS × Int} {a b : Nat} (h1 : r.1.wait.length ≤ a) (h2 : ∀ d : DskS, d.wait.length ≤ a → (f d).1.wait.length ≤ a + b) : (bindE r f).1.wait.length ≤ a + b := by
  by_cases h : r.2 = 0
  · rw [bindE_ok h]; exact h2 _ h1
  · rw [bindE_no h]; omega
theorem lay_wait (j : JrnS) (sec : Bool) (k m : Nat) (s : List UInt8) (d : DskS) : (layJ j sec k m s d).1.wait.length ≤ d.wait.length + m + 2 := by
  unfold layJ
  refine bindE_wait (a := d.wait.length + m) (b := 2) (wr_wait j sec m k _ d) fun d1 h1 => ?_
  refine bindE_wait (a := d.wait.length + m + 1) (b := 1) (by have := clean_wait j sec (k + m) d1; omega) fun d2 h2 => ?_
  refine bindE_wait (r := flushR d2) (a := d.wait.length + m + 1) (b := 1) (by have : (flushR d2).1.wait.length ≤ d2.wait.length := flush_wait d2; omega) fun d3 h3 => ?_
  refine bindE_wait (a := d.wait.length + m + 1 + 1) (b := 0) (by have := wr_wait j sec 1 k (sub s 0 64) d3; omega) fun d4 h4 => ?_
  have : (flushR d4).1.wait.length ≤ d4.wait.length := flush_wait d4
  omega
theorem anew_wait (j : JrnS) (ls : List (List UInt8)) (d : DskS) : (anewJ j ls d).1.wait.length ≤ d.wait.length + sumM ls + 3 := by
  unfold anewJ
  refine bindE_wait (a := d.wait.length + sumM ls) (b := 3) (wrAll_wait j _ ls 1 d) fun d1 h1 => ?_
  refine bindE_wait (a := d.wait.length + sumM ls + 1) (b := 2) (by have := clean_wait j (!j.second) (1 + sumM ls) d1; omega) fun d2 h2 => ?_
  refine bindE_wait (a := d.wait.length + sumM ls + 1 + 1) (b := 1) (by have := wr_wait j (!j.second) 1 0 (unmarkL (headL (j.epoch + 1))) d2; omega) fun d3 h3 => ?_
  refine bindE_wait (r := flushR d3) (a := d.wait.length + sumM ls + 1 + 1) (b := 1) (by have : (flushR d3).1.wait.length ≤ d3.wait.length := flush_wait d3; omega) fun d4 h4 => ?_
  refine bindE_wait (a := d.wait.length + sumM ls + 1 + 1 + 1) (b := 0) (by have := wr_wait j (!j.second) 1 0 (headL (j.epoch + 1)) d4; omega) fun d5 h5 => ?_
  have : (flushR d5).1.wait.length ≤ d5.wait.length := flush_wait d5
  omega
/-- Behind a call in which the power may have gone: what is left of it when some writes last. -/
structure CrS (w0 w : World) (bd bp gh f half e : Nat) (d : DskS) (new old : List (List UInt8)) : Prop where
  dat : DAt w0 w bd bp gh d
  wait : d.wait.length ≤ 900000
  inv : ∀ keep torn, torn ≤ 64 → ∃ j r, JInv j (crashD d keep torn) r ∧ j.first = f ∧ j.half = half ∧ (j.epoch = e ∨ j.epoch = e + 1) ∧ (r = new ∨ (d.gone = true ∧ r = old))
theorem CrS.q {w0 w w' : World} {bd bp gh f half e : Nat} {d : DskS} {new old : List (List UInt8)} (h : CrS w0 w bd bp gh f half e d new old) (hq : Q w w') : CrS w0 w' bd bp gh f half e d new old := ⟨h.dat.q hq, h.wait, h.inv⟩
/-- What such a call answers. -/
def PowE (w : World) (d : DskS) (e : Ending) : Prop := (d.gone = false ∧ e = .returned .nilIface) ∨ (d.gone = true ∧ ∃ b, e = .returned (.iface 84 (.pointer (some ⟨b, 0, none⟩))) ∧ WrapAt w b 10)
theorem Append_pow {w0 w : World} {bj bd bp gh f half e : Nat} {d : DskS} {recs : List (List UInt8)} (p : List UInt8) (n : Int) (hn : 0 ≤ n ∧ n ≤ 9223372036854775807) (h : JR w0 w bj bd bp gh f half e d recs) {w1 : World} (hd1 : DAt w0 w1 bd bp gh { d with fuse := n }) (hk1 : K w0 [] w w1) (hp : p.length ≤ 60000) (hfit : 1 + wantS recs + wantN p ≤ half) (het : ErrT w0) (hq0 : Q w0 w1) :
    Calls Tryz.prog 19 #[.pointer (some ⟨bj, 0, none⟩), .string ⟨p.toArray⟩] w1 fun e' w' => (∃ d', PowE w' d' e' ∧ CrS w0 w' bd bp gh f half e d' (recs ++ [p]) recs) ∧ K w0 [bj] w1 w' := by
  obtain ⟨j, hj, hi, rfl, rfl, rfl⟩ := h
  obtain ⟨ho, hl⟩ := lvD_inv hi n (by omega)
  have hjd := hj.up hk1 hd1
  have hwd : ({ d with fuse := n } : DskS).wait = [] := hi.wait
  obtain ⟨X, hX⟩ : ∃ X : DskS, { d with fuse := n } = X := ⟨_, rfl⟩
  rw [hX] at ho hl hjd hwd
  have hft : j.next + wantN p ≤ j.half := by rw [hi.next]; exact hfit
  have hac : appendC j p = 0 := (hi.append p hp hft).1
  have haj : appendJ j p = { j with many := j.many + 1, next := j.next + wantN p } := by unfold appendJ; rw [if_pos hac]
  have had : ∀ d, appendD j p d = layJ j j.second j.next (wantN p) (recL j p) d := fun d => by unfold appendD; rw [if_pos hac]
  have hc := append_crash ho hl p hp hft
  rw [had] at hc
  have hwt := lay_wait j j.second j.next (wantN p) (recL j p) X
  rw [hwd, List.length_nil] at hwt
  have hwn : wantN p ≤ 1000 := by unfold wantN; omega
  refine (Append_raw p hjd hi.ok hi.closed hp hft (by rw [hwd]; exact Nat.zero_le _) het hq0).mono ?_
  obtain ⟨r, hr⟩ : ∃ r, layJ j j.second j.next (wantN p) (recL j p) X = r := ⟨_, rfl⟩
  rw [hr] at hc hwt ⊢
  rintro e w' ⟨hcase, hk⟩
  refine ⟨⟨r.1, ?_, ?_, by omega, ?_⟩, hk⟩
  · rcases hcase with ⟨z, he, _⟩ | ⟨z, ⟨b, he, hb⟩, _⟩
    · rcases hc with ⟨_, h2, _⟩ | ⟨h2, _⟩
      · exact .inl ⟨h2.gone, he⟩
      · rw [z] at h2; cases h2
    · rcases hc with ⟨h2, _⟩ | ⟨h2, h3, _⟩
      · exact absurd h2 z
      · rw [h2] at hb; exact .inr ⟨h3, b, he, hb⟩
  · rcases hcase with ⟨_, _, hd⟩ | ⟨_, _, hd⟩
    · exact hd.d
    · exact hd.d
  · intro keep torn ht
    have f1 : (appendJ j p).first = j.first := by rw [haj]
    have f2 : (appendJ j p).half = j.half := by rw [haj]
    have f3 : (appendJ j p).epoch = j.epoch := by rw [haj]
    rcases hc with ⟨_, h2, h3⟩ | ⟨_, h2, _, _, h4⟩
    · refine ⟨appendJ j p, _, ?_, f1, f2, .inl f3, .inl rfl⟩
      rw [crash_none (d := r.1) (show r.1.wait = [] from h3.wait) keep torn]; exact h3
    · rcases h4 keep torn ht with h5 | h5
      · exact ⟨j, _, h5, rfl, rfl, .inl rfl, .inr ⟨h2, rfl⟩⟩
      · exact ⟨appendJ j p, _, h5, f1, f2, .inl f3, .inl rfl⟩
theorem Reset_pow {w0 w : World} {bj bd bp gh f half e : Nat} {d : DskS} {recs : List (List UInt8)} (v : Value) (ls : List (List UInt8)) (n : Int) (hn : 0 ≤ n ∧ n ≤ 9223372036854775807) (h : JR w0 w bj bd bp gh f half e d recs) {w1 : World} (hs : StrS w1 v ls) (hd1 : DAt w0 w1 bd bp gh { d with fuse := n }) (hk1 : K w0 [] w w1) (hp : ∀ p ∈ ls, p.length ≤ 60000) (hfit : wantS ls + 1 ≤ half) (hee : e < 4611686018427387904) (het : ErrT w0) (hq0 : Q w0 w1) :
    Calls Tryz.prog 22 #[.pointer (some ⟨bj, 0, none⟩), v] w1 fun e' w' => (∃ d', PowE w' d' e' ∧ CrS w0 w' bd bp gh f half e d' ls recs) ∧ K w0 [bj] w1 w' := by
  obtain ⟨j, hj, hi, rfl, rfl, rfl⟩ := h
  obtain ⟨ho, hl⟩ := lvD_inv hi n (by omega)
  have hjd := hj.up hk1 hd1
  have hwd : ({ d with fuse := n } : DskS).wait = [] := hi.wait
  obtain ⟨X, hX⟩ : ∃ X : DskS, { d with fuse := n } = X := ⟨_, rfl⟩
  rw [hX] at ho hl hjd hwd
  have hc := reset_crash ho hl ls hp hfit hee
  have hsm : sumM (packsL (j.epoch + 1) 0 ls) = wantS ls := wantS_packs _ _ _
  have hwt : (resetD j ls X).1.wait.length ≤ _ := anew_wait j (packsL (j.epoch + 1) 0 ls) X
  rw [hwd, hsm, List.length_nil] at hwt
  have hpl := hi.ok.place
  have hws := wantS_ge ls
  refine (Reset_raw v ls hjd hs hp hi.ok hi.closed hee hfit (by omega) (by rw [hwd]; exact Nat.zero_le _) het hq0).mono ?_
  obtain ⟨r, hr⟩ : ∃ r, resetD j ls X = r := ⟨_, rfl⟩
  rw [hr] at hc hwt ⊢
  rintro e w' ⟨hcase, hk⟩
  refine ⟨⟨r.1, ?_, ?_, by omega, ?_⟩, hk⟩
  · rcases hcase with ⟨z, he, _⟩ | ⟨z, ⟨b, he, hb⟩, _⟩
    · rcases hc with ⟨_, h2, _⟩ | ⟨h2, _⟩
      · exact .inl ⟨h2.gone, he⟩
      · rw [z] at h2; cases h2
    · rcases hc with ⟨h2, _⟩ | ⟨h2, h3, _⟩
      · exact absurd h2 z
      · rw [h2] at hb; exact .inr ⟨h3, b, he, hb⟩
  · rcases hcase with ⟨_, _, hd⟩ | ⟨_, _, hd⟩
    · exact hd.d
    · exact hd.d
  · intro keep torn ht
    rcases hc with ⟨_, h2, h3⟩ | ⟨_, h2, _, _, h4⟩
    · refine ⟨resetJ j ls, _, ?_, rfl, rfl, .inr rfl, .inl rfl⟩
      rw [crash_none (d := r.1) (show r.1.wait = [] from h3.wait) keep torn]; exact h3
    · rcases h4 keep torn ht with h5 | h5
      · exact ⟨j, _, h5, rfl, rfl, .inl rfl, .inr ⟨h2, rfl⟩⟩
      · exact ⟨resetJ j ls, _, h5, rfl, rfl, .inr rfl, .inl rfl⟩
theorem Open_crash {w0 w : World} {bd bp gh : Nat} {j : JrnS} {d : DskS} {recs : List (List UInt8)} (h : DAt w0 w bd bp gh d) (hi : JInv j d recs) (h0 : w0.heap.size ≤ w.heap.size) :
    Calls Tryz.prog 21 #[.pointer (some ⟨bd, 0, none⟩), .int .i64 (j.first : Int), .int .i64 ((2 * j.half : Nat) : Int)] w fun e' w' => ∃ bk v, e' = .returned (.tuple #[.pointer (some ⟨bk, 0, none⟩), v, .nilIface]) ∧ StrS w' v recs ∧ JR w0 w' bk bd bp gh j.first j.half j.epoch d recs ∧ w.heap.size ≤ bk ∧ Q w w' := by
  have ho := hi.open
  refine (Open_ok j.first j.half h hi.ok.half hi.fits h0 (by rw [hi.wait]; exact Nat.zero_le _) ⟨hi.live.gone, hi.live.dead⟩ (by rw [ho]; have := hi.ok.epoch; show j.epoch ≠ 0; omega)).mono ?_
  rintro e w' ⟨⟨bk, v, he, hv, hk, hb⟩, hq⟩
  rw [ho] at hv hk
  have hjj : foundJ j.first j.half ⟨j.second, j.epoch, recs, j.next⟩ = j := by
    unfold foundJ
    rw [← hi.many, ← hi.closed]
  rw [hjj] at hk
  exact ⟨bk, v, he, hv.toS, ⟨j, hk, hi, rfl, rfl, rfl⟩, hb, hq⟩
set_option maxHeartbeats 400000 in
theorem faultIs_w (b : Nat) (c : Int) (w : World) (h : WrapAt w b c) :
    Calls Tryz.prog 123 #[.pointer (some ⟨b, 0, none⟩), .iface 62 (.int .i64 c)] w fun e w' => e = .returned (.bool true) ∧ w = w' := by
  have c0 := h.cell0
  have hA := asErrno
  go_enter Tryz.func123, Tryz.ntmps123
  go_wp2
  go_ret
  exact ⟨rfl, rfl⟩
open Go.Extern.Stop Go.Stop Go.Extern in
set_option maxHeartbeats 1000000 in
theorem errorsis_w (b : Nat) (c : Int) (w : World) (h : WrapAt w b c) :
    Calls Tryz.prog 72 #[.iface 84 (.pointer (some ⟨b, 0, none⟩)), .iface 62 (.int .i64 c), .bool true] w fun e w' => e = .returned (.bool true) ∧ w = w' := by
  have hty := run_eql_iface_types (P := Tryz.prog) 84 62 (.pointer (some ⟨b, 0, none⟩)) (.int .i64 c) Tryz.underlying37 (by decide) w
  have hI := hasIs
  have mI := mIs
  go_enter Tryz.func72, Tryz.ntmps72
  go_wp2
  refine wp_loop_rounds 1 ?_
  rw [rounds_succ]
  go_wp2_with (go_at_call 123; refine (faultIs_w b c _ h).mono ?_; rintro e w' ⟨rfl, rfl⟩)
  go_ret
  exact ⟨rfl, rfl⟩
open Go.Extern.Stop Go.Stop Go.Extern in
set_option maxHeartbeats 400000 in
theorem errorsIs_w (b : Nat) (c : Int) (w : World) (h : WrapAt w b c) :
    Calls Tryz.prog 48 #[.iface 84 (.pointer (some ⟨b, 0, none⟩)), .iface 62 (.int .i64 c)] w fun e w' => e = .returned (.bool true) ∧ w = w' := by
  have tT := callTypeOf
  have cT := callComparable
  have mC := mComparable
  go_enter Tryz.func48, Tryz.ntmps48
  go_wp2_with (go_at_call 72; refine (errorsis_w b c _ h).mono ?_; rintro e w' ⟨rfl, rfl⟩)
  go_ret
  exact ⟨rfl, rfl⟩
end Go.Proofs.YtcbepjepcabllaaGreatDoor
/- JournalAnew, walked. -/
set_option linter.unusedVariables false
set_option linter.unusedSimpArgs false
namespace Go.Proofs.YtcbepjepcabllaaGreatDoor
open Go Go.RowKit
theorem textsL_len (ls : List (List UInt8)) (many long : Nat) : (textsL ls many long).length ≤ many := by unfold textsL; simp; omega
theorem textsL_mem (ls : List (List UInt8)) (many long : Nat) : ∀ p ∈ textsL ls many long, p.length ≤ long := by
  intro p hp
  unfold textsL at hp
  obtain ⟨q, _, rfl⟩ := List.mem_map.1 hp
  rw [List.length_take]; omega
theorem wantS_le (m : Nat) (ls : List (List UInt8)) (h : ∀ p ∈ ls, wantN p ≤ m) : wantS ls ≤ m * ls.length := by
  induction ls with
  | nil => exact Nat.le_refl _
  | cons p r ih =>
    have h1 := ih fun q hq => h q (List.mem_cons_of_mem _ hq)
    have h2 := h p List.mem_cons_self
    rw [wantS_cons, List.length_cons, Nat.mul_add, Nat.mul_one]
    omega
theorem wantN_le {p : List UInt8} (h : p.length ≤ 100) : wantN p ≤ 2 := by unfold wantN; omega
end Go.Proofs.YtcbepjepcabllaaGreatDoor
/- JournalTwo, walked. -/
set_option linter.unusedVariables false
set_option linter.unusedSimpArgs false
namespace Go.Proofs.YtcbepjepcabllaaGreatDoor
open Go Go.RowKit
theorem take_more {ls : List (List UInt8)} {i : Nat} (h : ls.length ≤ i) : ls.take (i + 1) = ls.take i := by rw [List.take_of_length_le (by omega), List.take_of_length_le h]
theorem take_one {ls : List (List UInt8)} {i : Nat} (h : i < ls.length) : ls.take (i + 1) = ls.take i ++ [gL ls i] := by
  rw [List.take_succ_eq_append_getElem h]; simp [gL, List.getD, h]
theorem gL_mem {ls : List (List UInt8)} {i : Nat} (h : i < ls.length) : gL ls i ∈ ls := by simp [gL, List.getD, h]
end Go.Proofs.YtcbepjepcabllaaGreatDoor
/- JournalResets, walked. -/
set_option linter.unusedVariables false
set_option linter.unusedSimpArgs false
namespace Go.Proofs.YtcbepjepcabllaaGreatDoor
open Go Go.RowKit
theorem PowE.val {w : World} {d : DskS} {e : Ending} (h : PowE w d e) : ∃ v, e = .returned v ∧ ((d.gone = false ∧ v = .nilIface) ∨ (d.gone = true ∧ ∃ b, v = .iface 84 (.pointer (some ⟨b, 0, none⟩)) ∧ WrapAt w b 10)) := by
  rcases h with ⟨h1, rfl⟩ | ⟨h1, b, rfl, h2⟩
  · exact ⟨_, rfl, .inl ⟨h1, rfl⟩⟩
  · exact ⟨_, rfl, .inr ⟨h1, b, rfl, h2⟩⟩
end Go.Proofs.YtcbepjepcabllaaGreatDoor
/- JournalLooks, walked. -/
set_option linter.unusedVariables false
set_option linter.unusedSimpArgs false
namespace Go.Proofs.YtcbepjepcabllaaGreatDoor
open Go Go.RowKit
end Go.Proofs.YtcbepjepcabllaaGreatDoor
/- A region that draws its order, where two operations may come in either order: both are walked. -/
set_option linter.unusedVariables false
namespace Go.Proofs.YtcbepjepcabllaaGreatDoor
open Go Go.RowKit
section
variable {P : Program} {ops : Array Oper} {R : Exit → Act → World → Prop} {S : World → Prop}
def forkB (ops : Array Oper) (x y : Nat) (ls : Array Bool) : Bool :=
  decide (Region.ready .any ops ls = [x, y]) && (ops[x]?).isSome && (ops[y]?).isSome && decide (x ≠ y) && forcedB ops [y] (ls.setIfInBounds x true) && forcedB ops [x] (ls.setIfInBounds y true)
theorem any_fork (f x y : Nat) (ls : Array Bool) (a : Act) (w : World) (E : Act → World → Prop) (hS : S w) (hB : forkB ops x y ls = true) (hE : ∀ a w, S w → E a w → wpAnyH P .any ops R S f (markB [x, y] ls) a w)
    (h1 : wpListK P ops R S E ([x, y].map (ops.getD · default)) a w) (h2 : wpListK P ops R S E ([y, x].map (ops.getD · default)) a w) : wpAnyH P .any ops R S (2 + f) ls a w := by
  simp only [forkB, Bool.and_eq_true, decide_eq_true_eq] at hB
  obtain ⟨⟨⟨⟨⟨hr, hx⟩, hy⟩, hne⟩, hB1⟩, hB2⟩ := hB
  rw [show 2 + f = (1 + f) + 1 by omega]
  refine wpAnyH_all hr (by simp) fun i hi => ?_
  have hi : i = x ∨ i = y := by simpa using hi
  rcases hi with rfl | rfl
  · obtain ⟨o, ho⟩ := Option.isSome_iff_exists.1 hx
    have hk : ops.getD i default = o := by simp [Array.getD_eq_getD_getElem?, ho]
    rw [List.map_cons, hk] at h1
    exact wpOp_of_one ho (h1 _ (fun a' w' hs h' => ⟨hs, any_chain f [y] _ a' w' E hs hB1 hE h'⟩))
  · obtain ⟨o, ho⟩ := Option.isSome_iff_exists.1 hy
    have hk : ops.getD i default = o := by simp [Array.getD_eq_getD_getElem?, ho]
    rw [List.map_cons, hk] at h2
    refine wpOp_of_one ho (h2 _ (fun a' w' hs h' => ⟨hs, any_chain f [x] _ a' w' E hs hB2 (fun a w hs he => ?_) h'⟩))
    have e : markB [x] (ls.setIfInBounds i true) = markB [x, i] ls := by
      show (ls.setIfInBounds i true).setIfInBounds x true = (ls.setIfInBounds x true).setIfInBounds i true
      rw [Array.setIfInBounds_comm _ _ (Ne.symm hne)]
    rw [e]
    exact hE a w hs he
end
/-- First reads, then x and y in either order, then the rest in stages. -/
theorem wp_fork {P : Program} {id : Nat} {R : Exit → Act → World → Prop} {a : Act} {w : World} {l : List Oper} (hd : List Nat) (x y : Nat) (ps : List (List Nat × List Nat)) (hm : P.follows .mixedOrders = true)
    (hB : (Region.noSelect l.toArray && pureB .any l.toArray hd (Array.replicate l.length false) && forkB l.toArray x y (markB hd (Array.replicate l.length false)) && planB l.toArray ps (markB [x, y] (markB hd (Array.replicate l.length false))) && decide (hd.length + (2 + planN ps) = l.length)) = true)
    (hQ : ∀ c a d v w, R (.panic c) (Act.put a d v) w → R (.panic c) a w)
    (h : wpQuiet P l.toArray (fun w' => ∃ m : QW w, w' = m.val) (fun a' => wpListK P l.toArray R (fun w' => ∃ m : QW w, w' = m.val) (wpPlan P l.toArray R (fun w' => ∃ m : QW w, w' = m.val) ps) ([x, y].map (l.toArray.getD · default)) a' w.drew ∧
      wpListK P l.toArray R (fun w' => ∃ m : QW w, w' = m.val) (wpPlan P l.toArray R (fun w' => ∃ m : QW w, w' = m.val) ps) ([y, x].map (l.toArray.getD · default)) a' w.drew) (hd.map (l.toArray.getD · default)) a) : (Code.region id l.toArray true).wp P R a w := by
  simp only [Bool.and_eq_true, decide_eq_true_eq] at hB
  obtain ⟨⟨⟨⟨h1, h2⟩, h3⟩, h4⟩, h5⟩ := hB
  refine wp_region_held (S := fun w' => ∃ m : QW w, w' = m.val) hm ?_
  have := any_headS (S := fun w' => ∃ m : QW w, w' = m.val) h1 hQ (2 + planN ps) w.drew ⟨⟨w.drew, (Q.refl w).drew⟩, rfl⟩ hd (Array.replicate l.length false) a h2 (wpQuiet_mono (fun a' h' =>
    any_fork (planN ps) x y _ a' w.drew _ ⟨⟨w.drew, (Q.refl w).drew⟩, rfl⟩ h3 (fun a w hs he => any_plan h1 hQ ps _ a w hs h4 he) h'.1 h'.2) _ _ h)
  rw [h5] at this
  exact this
end Go.Proofs.YtcbepjepcabllaaGreatDoor
