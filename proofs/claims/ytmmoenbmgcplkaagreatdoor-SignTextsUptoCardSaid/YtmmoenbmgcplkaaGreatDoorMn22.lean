/- Texts of this proof, laid into one: Sjo, SgT, SgU, SgW, SgX. -/
import Derived.Test.YtmmoenbmgcplkaaGreatDoorMn21
/- The laws' still. -/
set_option linter.unusedVariables false
set_option linter.unusedSimpArgs false
namespace Go.Proofs.YtmmoenbmgcplkaaGreatDoor
open Go Go.RowKit
/-- A request with a mark behind its fields. -/
structure Marked (W : World) (r : ReqD) (G n : Nat) : Prop where
  p : PairsAt W (some ⟨G, 0, none⟩) n r.fs
  c0 : W.cell? ⟨G, n * 2, none⟩ = some (.string ⟨#[109, 97, 114, 107]⟩)
  c1 : W.cell? ⟨G, n * 2 + 1, none⟩ = some (.string ⟨#[]⟩)
theorem Marked.q {W W' : World} {r : ReqD} {G n : Nat} (h : Marked W r G n) (hq : Q W W') : Marked W' r G n := ⟨h.p.q hq, hq.cell h.c0, hq.cell h.c1⟩
theorem marked_of {w W : World} {r : ReqD} {G n : Nat} (h : OwnU w W (.slice (some ⟨G, 0, none⟩) (n + 1) (n + 1)) (r.fs ++ [markP])) (hn : n = r.fs.length) : Marked W r G n := by
  obtain ⟨A', c', e, _, hp⟩ := h.pairs
  injection e with e1 _ _
  subst e1
  have h2 := hp.take n (by rw [List.length_append, ← hn]; simp)
  rw [List.take_append_of_le_length (by rw [← hn]; exact Nat.le_refl _)] at h2
  have h3 : PairsAt W (some ⟨G, 0, none⟩) n r.fs := by rw [hn, List.take_length] at h2; rw [hn]; exact h2
  obtain ⟨g, hg, c0, c1, _, _⟩ := h.el (j := n) (by rw [List.length_append, ← hn]; simp)
  cases hg
  have hgu : gU (r.fs ++ [markP]) n = markP := by rw [hn]; exact gU_end r.fs markP
  rw [hgu] at c0 c1
  exact ⟨h3, c0, c1⟩
set_option maxRecDepth 100000 in
set_option maxHeartbeats 4000000 in
theorem still_any (r : ReqD) (A : Option Addr) (G n c : Nat) (w : World) (hm : Marked w r G n) (h : PairsAt w A n r.fs) (hn : n ≤ 1100000) :
    Calls Tryz.prog 15 #[.agg (reqC r (some ⟨G, 0, none⟩) n (n + 1)).toArray, .agg (reqC r A n c).toArray] w fun e w' => e = .returned (.bool true) ∧ Q w w' := by
  have HM := Lib.hid hm
  have HSm := Lib.hid (fun W (hq : Q w W) => RSame_true r (some ⟨G, 0, none⟩) A n (n + 1) c W (hm.p.q hq) (h.q hq) (by omega))
  obtain ⟨N, w1, hN, e1, hb1, hq1⟩ : ∃ N w1, w.heap.size = N ∧ w.alloc (.cells (reqV r (.slice (some ⟨G, 0, none⟩) n (n + 1))).toArray 24) = w1 ∧ RB w1 N r (.slice (some ⟨G, 0, none⟩) n (n + 1)) ∧ Q w w1 := ⟨_, _, rfl, rfl, RB.new w r _, (Q.refl w).alloc _⟩
  obtain ⟨w2, hN1, e2, hb2, hb3, hq2⟩ : ∃ w2, w1.heap.size = N + 1 ∧ w1.alloc (.cells (reqV r (.slice A n c)).toArray 24) = w2 ∧ RB w2 N r (.slice (some ⟨G, 0, none⟩) n (n + 1)) ∧ RB w2 (N + 1) r (.slice A n c) ∧ Q w w2 := by
    have hs1 : w1.heap.size = N + 1 := by rw [← e1, ← hN]; show (w.heap.push _).size = _; simp
    refine ⟨_, hs1, rfl, hb1.q ((Q.refl w1).alloc _), ?_, hq1.alloc _⟩
    rw [← hs1]; exact RB.new w1 r _
  have HB := Lib.hid hb2
  have HC := Lib.hid hb3
  have HQ := Lib.hid hq2
  clear h hm hb1 hq1 hb2 hb3 hq2
  obtain ⟨m, tg, minor, fs, body, close⟩ := r
  simp only [reqV] at e1 e2
  unfold reqC at HSm ⊢
  obtain ⟨b0, b1, b2, b3, b4, b5⟩ := HB.out.c
  obtain ⟨c0, d1, d2, d3, d4, d5⟩ := HC.out.c
  simp only at b0 b1 b2 b4 b5 c0 d1 d2 d4 d5
  go_enter Tryz.func15, Tryz.ntmps15
  go_wp2_with fail
  refine (HSm.out _ HQ.out).mono ?_
  rintro e w3 ⟨rfl, hq3⟩
  have HQ3 := Lib.hid (HQ.out.trans hq3)
  clear b0 b1 b2 b3 b4 b5 c0 d1 d2 d3 d4 d5 e1 e2 hN hN1
  have b3 := (HB.out.q hq3).c.2.2.2.1
  have m0 := (HM.out.q HQ3.out).c0
  have m1 := (HM.out.q HQ3.out).c1
  have hnn : (n : Int) < (n : Int) + 1 := by omega
  clear hq3
  go_wp2_with fail
  go_ret
  exact ⟨rfl, HQ3.out⟩
end Go.Proofs.YtmmoenbmgcplkaaGreatDoor
/- Plain: a value whose blanks are squeezed, byte by byte. -/
set_option linter.unusedVariables false
set_option linter.unusedSimpArgs false
namespace Go.Proofs.YtmmoenbmgcplkaaGreatDoor
open Go Go.RowKit
def blkB (b : UInt8) : Bool := b == 32 || b == 9
def stepQ (st : List UInt8 × Bool) (b : UInt8) : List UInt8 × Bool :=
  if blkB b then (st.1, !st.1.isEmpty) else ((if st.2 then st.1 ++ [32, b] else st.1 ++ [b]), false)
def squeezeR (s : List UInt8) : List UInt8 := (s.foldl stepQ ([], false)).1
theorem blkB_nat (b : UInt8) : blkB b = (decide (b.toNat = 32) || decide (b.toNat = 9)) := by
  have h : ∀ n : Fin 256, blkB n.val.toUInt8 = (decide (n.val.toUInt8.toNat = 32) || decide (n.val.toUInt8.toNat = 9)) := by decide +kernel
  have := h ⟨b.toNat, b.toNat_lt⟩
  simpa using this
theorem conts (n b0 b1 b2 b3 : Nat) :
    (2 ≤ (Lib.decodeN n b0 b1 b2 b3).2 → b1 / 64 = 2) ∧ (3 ≤ (Lib.decodeN n b0 b1 b2 b3).2 → b2 / 64 = 2) ∧ (4 ≤ (Lib.decodeN n b0 b1 b2 b3).2 → b3 / 64 = 2) ∧ (Lib.decodeN n b0 b1 b2 b3).2 ≤ 4 := by
  unfold Lib.decodeN
  repeat' split
  all_goals (simp only; omega)
theorem dec_nb (l : List UInt8) (pos : Nat) (h : pos < l.length) :
    blankN (Utf8.decode ⟨l.toArray⟩ pos).1 = blkB (gB l pos) ∧ (blkB (gB l pos) = true → (Utf8.decode ⟨l.toArray⟩ pos).2 = 1) ∧
    (blkB (gB l pos) = false → ∀ j, j < (Utf8.decode ⟨l.toArray⟩ pos).2 → blkB (gB l (pos + j)) = false) := by
  obtain ⟨f1, f2, f3, f4⟩ := dec_facts l pos h
  have hsz : (ByteArray.mk l.toArray).size = l.length := rfl
  have hg : (ByteArray.mk l.toArray).get! pos = gB l pos := get_gB l pos h
  by_cases hb : 128 ≤ (gB l pos).toNat
  · obtain ⟨f5, _⟩ := f4 hb
    have hk : blkB (gB l pos) = false := by rw [blkB_nat]; simp; omega
    refine ⟨?_, ?_, ?_⟩
    · rw [hk]; unfold blankN; simp; omega
    · intro h; rw [hk] at h; cases h
    intro _ j hj
    · rw [Lib.decode_at, hsz, hg] at hj f2
      obtain ⟨c1, c2, c3, c4⟩ := conts (l.length - pos) (gB l pos).toNat ((ByteArray.mk l.toArray).get! (pos + 1)).toNat ((ByteArray.mk l.toArray).get! (pos + 2)).toNat ((ByteArray.mk l.toArray).get! (pos + 3)).toNat
      rcases j with _ | _ | _ | _ | j
      · exact hk
      · have := c1 (by omega); rw [get_gB l (pos + 1) (by omega)] at this; rw [blkB_nat]; simp; omega
      · have := c2 (by omega); rw [get_gB l (pos + 2) (by omega)] at this; rw [blkB_nat]; simp; omega
      · have := c3 (by omega); rw [get_gB l (pos + 3) (by omega)] at this; rw [blkB_nat]; simp; omega
      · omega
  · have e : Utf8.decode ⟨l.toArray⟩ pos = ((gB l pos).toNat, 1) := by
      rw [Lib.decode_at, hsz, hg]
      unfold Lib.decodeN
      rw [if_pos (by omega)]
    rw [e]
    refine ⟨by rw [blkB_nat]; rfl, fun _ => rfl, ?_⟩
    intro hk j hj
    have : j = 0 := by simp only at hj; omega
    subst this; exact hk
theorem fold_nb (u : List UInt8) : u ≠ [] → (∀ b ∈ u, blkB b = false) → ∀ o g, u.foldl stepQ (o, g) = ((if g then o ++ 32 :: u else o ++ u), false) := by
  have h0 : ∀ u : List UInt8, (∀ b ∈ u, blkB b = false) → ∀ o, u.foldl stepQ (o, false) = (o ++ u, false) := by
    intro u
    induction u with
    | nil => intro _ o; simp
    | cons b r ih =>
      intro hb o
      have h1 : stepQ (o, false) b = (o ++ [b], false) := by unfold stepQ; rw [if_neg (by rw [hb b (by simp)]; decide)]; rfl
      rw [List.foldl_cons, h1, ih (fun x hx => hb x (by simp [hx]))]
      simp
  intro hu hb o g
  obtain ⟨b, r, rfl⟩ := List.exists_cons_of_ne_nil hu
  rcases g with _ | _
  · rw [h0 _ hb]; rfl
  · have h1 : stepQ (o, true) b = (o ++ [32, b], false) := by unfold stepQ; rw [if_neg (by rw [hb b (by simp)]; decide)]; rfl
    rw [List.foldl_cons, h1, h0 _ (fun x hx => hb x (by simp [hx]))]
    simp
theorem join_snocC (c : UInt8) (xs : List (List UInt8)) (x : List UInt8) (h : xs ≠ []) : Lib.join (xs ++ [x]) [c] = Lib.join xs [c] ++ (c :: x) := by
  induction xs with
  | nil => exact absurd rfl h
  | cons a r ih =>
    rcases r with _ | ⟨b, r⟩
    · rw [List.cons_append, List.nil_append, join_cons, join_one, join_one]; simp
    · rw [List.cons_append, List.cons_append, join_cons, join_cons, ← List.cons_append, ih (by simp)]; simp
theorem join_ext (c : UInt8) (xs : List (List UInt8)) (x u : List UInt8) : Lib.join (xs ++ [x]) [c] ++ u = Lib.join (xs ++ [x ++ u]) [c] := by
  rcases xs with _ | ⟨a, r⟩
  · rw [List.nil_append, List.nil_append, join_one, join_one]
  · rw [join_snocC c _ _ (by simp), join_snocC c _ _ (by simp)]; simp
theorem join_empty (c : UInt8) (xs : List (List UInt8)) (h : ∀ x ∈ xs, x ≠ []) : (Lib.join xs [c]).isEmpty = xs.isEmpty := by
  rcases xs with _ | ⟨a, r⟩
  · rw [join_nil]; rfl
  · obtain ⟨b, t, hb⟩ := List.exists_cons_of_ne_nil (h a (by simp))
    rcases r with _ | ⟨d, r⟩
    · rw [join_one, hb]; rfl
    · rw [join_cons, hb]; rfl
def piecesQ (s : List UInt8) (acc : List (Nat × Nat)) : List (List UInt8) := acc.map fun x => sub s x.1 x.2
def InvQ (s : List UInt8) (pos : Nat) (st : Option Nat) (acc : List (Nat × Nat)) (q : List UInt8 × Bool) : Prop :=
  (∀ x ∈ acc, x.1 < x.2 ∧ x.2 ≤ s.length) ∧ match st with
  | some a => a < pos ∧ q = (Lib.join (piecesQ s acc ++ [sub s a pos]) [32], false)
  | none => q = (Lib.join (piecesQ s acc) [32], !(piecesQ s acc).isEmpty)
theorem sub_neQ {s : List UInt8} {a b : Nat} (h : a < b) (hb : b ≤ s.length) : sub s a b ≠ [] := by
  intro e
  have := congrArg List.length e
  unfold sub at this
  simp at this; omega
theorem pieces_ne {s : List UInt8} {acc : List (Nat × Nat)} (h : ∀ x ∈ acc, x.1 < x.2 ∧ x.2 ≤ s.length) : ∀ x ∈ piecesQ s acc, x ≠ [] := by
  intro x hx
  unfold piecesQ at hx
  obtain ⟨y, hy, rfl⟩ := List.mem_map.1 hx
  exact sub_neQ (h y hy).1 (h y hy).2
theorem spans_fold (s : List UInt8) : ∀ (f pos : Nat) (st : Option Nat) (acc : List (Nat × Nat)) (q : List UInt8 × Bool), pos ≤ s.length → s.length - pos ≤ f → InvQ s pos st acc q →
    ((s.drop pos).foldl stepQ q).1 = Lib.join (piecesQ s (Lib.closeSpans ⟨s.toArray⟩ (Lib.spansFromP blankN ⟨s.toArray⟩ f pos st acc))) [32] := by
  have hsz : (ByteArray.mk s.toArray).size = s.length := rfl
  have hend : ∀ (pos : Nat) (st : Option Nat) (acc : List (Nat × Nat)) (q : List UInt8 × Bool), pos = s.length → InvQ s pos st acc q → ((s.drop pos).foldl stepQ q).1 = Lib.join (piecesQ s (Lib.closeSpans ⟨s.toArray⟩ (acc, st))) [32] := by
    intro pos st acc q hp hi
    rw [List.drop_eq_nil_of_le (by omega), List.foldl_nil]
    unfold Lib.closeSpans InvQ at *
    rcases st with _ | a
    · simp only at hi ⊢; rw [hi.2]
    · simp only at hi ⊢
      rw [hi.2.2, hsz, hp]
      unfold piecesQ
      simp
  intro f
  induction f with
  | zero =>
    intro pos st acc q hp hf hi
    exact hend pos st acc q (by omega) hi
  | succ f ih =>
    intro pos st acc q hp hf hi
    unfold Lib.spansFromP
    by_cases hlt : pos < s.length
    · rw [if_pos (by rw [hsz]; exact hlt)]
      obtain ⟨d1, d2, d3⟩ := dec_nb s pos hlt
      obtain ⟨e1, e2, _, _⟩ := dec_facts s pos hlt
      rw [d1]
      rcases hb : blkB (gB s pos) with _ | _
      · have d3 := d3 hb
        generalize hn : (Utf8.decode ⟨s.toArray⟩ pos).2 = n at *
        have hdr : s.drop pos = sub s pos (pos + n) ++ s.drop (pos + n) := by
          unfold sub
          rw [List.drop_take, show pos + n - pos = n by omega, show s.drop (pos + n) = (s.drop pos).drop n by rw [List.drop_drop]]
          exact (List.take_append_drop n (s.drop pos)).symm
        have hsn : sub s pos (pos + n) ≠ [] := sub_neQ (by omega) e2
        have hsb : ∀ b ∈ sub s pos (pos + n), blkB b = false := by
          intro b hbm
          obtain ⟨j, hj, rfl⟩ := List.mem_iff_getElem.1 hbm
          have hjl : j < n := by unfold sub at hj; simp at hj; omega
          have := d3 j hjl
          have e : (sub s pos (pos + n))[j] = gB s (pos + j) := by
            have h2 : pos + j < s.length := by omega
            have h3 : ((s.take (pos + n)).drop pos)[j]? = s[pos + j]? := by rw [List.getElem?_drop, List.getElem?_take, if_pos (by omega)]
            have h4 : (sub s pos (pos + n))[j]? = some (gB s (pos + j)) := by
              show ((s.take (pos + n)).drop pos)[j]? = _
              rw [h3, List.getElem?_eq_getElem h2]; simp [gB, List.getD, h2]
            exact Option.some.inj ((List.getElem?_eq_getElem hj).symm.trans h4)
          rw [e]; exact this
        rw [hdr, List.foldl_append]
        have hsub : ∀ a, a ≤ pos → sub s a pos ++ sub s pos (pos + n) = sub s a (pos + n) := by
          intro a ha
          unfold sub
          have h1 : (s.take (pos + n)).drop a = ((s.take (pos + n)).take pos).drop a ++ ((s.take (pos + n)).drop pos) := by
            conv => lhs; rw [← List.take_append_drop pos (s.take (pos + n))]
            rw [List.drop_append_of_le_length (by simp; omega)]
          rw [h1, List.take_take, show min pos (pos + n) = pos by omega]
        rcases st with _ | a
        · simp only [Bool.false_eq_true, if_false]
          refine ih _ _ _ _ e2 (by omega) ?_
          unfold InvQ at hi ⊢
          refine ⟨hi.1, by omega, ?_⟩
          rw [hi.2, fold_nb _ hsn hsb]
          rcases hp0 : piecesQ s acc with _ | ⟨x, r⟩
          · simp only [List.isEmpty_nil, Bool.not_true, Bool.false_eq_true, if_false, List.nil_append]
            rw [join_nil, join_one]; rfl
          · simp only [List.isEmpty_cons, Bool.not_false, if_true]
            rw [join_snocC 32 (x :: r) _ (by simp)]
        · simp only [Bool.false_eq_true, if_false]
          refine ih _ _ _ _ e2 (by omega) ?_
          unfold InvQ at hi ⊢
          refine ⟨hi.1, by have := hi.2.1; omega, ?_⟩
          rw [hi.2.2, fold_nb _ hsn hsb]
          simp only [Bool.false_eq_true, if_false]
          rw [join_ext, hsub a (by have := hi.2.1; omega)]
      · have hn := d2 hb
        rw [hn]
        rw [drop_consB s pos hlt, List.foldl_cons]
        rcases st with _ | a
        · simp only [if_true]
          refine ih _ _ _ _ (by omega) (by omega) ?_
          unfold InvQ at hi ⊢
          refine ⟨hi.1, ?_⟩
          simp only at hi ⊢
          rw [hi.2]
          unfold stepQ
          rw [if_pos hb]
          simp only
          rw [join_empty 32 _ (pieces_ne hi.1)]
        · simp only [if_true]
          refine ih _ _ _ _ (by omega) (by omega) ?_
          unfold InvQ at hi ⊢
          have hacc : ∀ x ∈ acc ++ [(a, pos)], x.1 < x.2 ∧ x.2 ≤ s.length := by
            intro x hx
            rcases List.mem_append.1 hx with hx | hx
            · exact hi.1 x hx
            · simp only [List.mem_singleton] at hx; subst hx; exact ⟨hi.2.1, by simp only; omega⟩
          refine ⟨hacc, ?_⟩
          have hpp : piecesQ s (acc ++ [(a, pos)]) = piecesQ s acc ++ [sub s a pos] := by unfold piecesQ; simp
          simp only at hi ⊢
          rw [hi.2.2]
          unfold stepQ
          rw [if_pos hb]
          simp only
          rw [← hpp, join_empty 32 _ (pieces_ne hacc)]
    · rw [if_neg (by rw [hsz]; exact hlt)]
      exact hend pos st acc q (by omega) hi
theorem squeeze_eq (s : List UInt8) : squeezeL s = squeezeR s := by
  have h := spans_fold s s.length 0 none [] ([], false) (by omega) (by omega) ⟨fun x hx => (by cases hx), by unfold piecesQ; rw [List.map_nil, join_nil]; rfl⟩
  rw [List.drop_zero] at h
  unfold squeezeR squeezeL fieldsL Lib.goFieldsP Lib.spansOfP
  rw [h]
  congr 1
  unfold piecesQ
  rw [List.map_map]
  refine List.map_congr_left fun x _ => ?_
  show ((ByteArray.mk s.toArray).extract x.1 x.2).data.toList = sub s x.1 x.2
  rw [extract_list]
end Go.Proofs.YtmmoenbmgcplkaaGreatDoor
/- Plain: the document's way to take an authorization apart is the program's. -/
set_option linter.unusedVariables false
set_option linter.unusedSimpArgs false
namespace Go.Proofs.YtmmoenbmgcplkaaGreatDoor
open Go Go.RowKit
def blkL (s : List UInt8) : List UInt8 := Lib.trimLeftB s 32
/-- Behind "Signature=". -/
def apS (c : ClaimD) (s : List UInt8) : Option ClaimD :=
  if Lib.hasPrefix (blkL s) sgnW = true ∧ ((blkL s).drop 10).length = 64 then
    if ((blkL s).drop 10).all chrX = true then some { c with sig := (blkL s).drop 10 } else none
  else none
/-- Behind the credential. -/
def apH (c : ClaimD) (s : List UInt8) : Option ClaimD :=
  if Lib.hasPrefix (blkL s) shdW = true then
    if uptoB 44 ((blkL s).drop 14) = true then apS { c with names := splitC 59 (uptoP 44 ((blkL s).drop 14)) } (uptoS 44 ((blkL s).drop 14)) else none
  else none
def credOk (p : List UInt8) : Prop := uptoB 47 p = true ∧ uptoB 47 (uptoS 47 p) = true ∧ uptoB 47 (uptoS 47 (uptoS 47 p)) = true ∧ uptoS 47 (uptoS 47 (uptoS 47 p)) = s3L ∧ wordL (uptoP 47 p) = true ∧ (uptoP 47 (uptoS 47 p)).length = 8
instance (p : List UInt8) : Decidable (credOk p) := by unfold credOk; infer_instance
def apC (p s : List UInt8) : Option ClaimD :=
  if credOk p then
    if (uptoP 47 (uptoS 47 p)).all chrT = true then apH ⟨uptoP 47 p, uptoP 47 (uptoS 47 p), uptoP 47 (uptoS 47 (uptoS 47 p)), [], []⟩ s else none
  else none
def apQ (s : List UInt8) : Option ClaimD :=
  if Lib.hasPrefix s methodS = true then
    if Lib.hasPrefix (blkL (s.drop 17)) credW = true then
      if uptoB 44 ((blkL (s.drop 17)).drop 11) = true then apC (uptoP 44 ((blkL (s.drop 17)).drop 11)) (uptoS 44 ((blkL (s.drop 17)).drop 11)) else none
    else none
  else none
theorem headS_eq (h s : List UInt8) (hp : Lib.hasPrefix (blkL s) h = true) : headS h s = (blkL s).drop h.length := by
  unfold headS Lib.trimPrefix blkL at *
  rw [if_pos hp]
theorem read_apart (s : List UInt8) : readQ s = apQ s := by
  unfold readQ apQ
  by_cases h0 : Lib.hasPrefix s methodS = true
  · rw [if_pos h0]
    have hs : s = methodL ++ 32 :: s.drop 17 := by
      unfold Lib.hasPrefix at h0
      rw [List.isPrefixOf_iff_prefix] at h0
      obtain ⟨t, rfl⟩ := h0
      rfl
    have e1 : headS methodL s = 32 :: s.drop 17 ∧ headB methodL s = true := by
      conv => lhs; rw [hs]
      conv => rhs; rw [hs]
      exact head_hit (h := methodL) (32 :: s.drop 17) (by decide) (by decide)
    have e2 : blkL (32 :: s.drop 17) = blkL (s.drop 17) := by
      unfold blkL Lib.trimLeftB; rw [List.dropWhile_cons_of_pos (by rfl)]
    have e3 : headB credW (32 :: s.drop 17) = Lib.hasPrefix (blkL (s.drop 17)) credW := by unfold headB; rw [← e2]; rfl
    by_cases h1 : Lib.hasPrefix (blkL (s.drop 17)) credW = true
    · rw [if_pos h1]
      have e4 : headS credW (32 :: s.drop 17) = (blkL (s.drop 17)).drop 11 := by
        rw [headS_eq credW _ (by rw [e2]; exact h1), e2]; rfl
      generalize (blkL (s.drop 17)).drop 11 = t2 at *
      have hW : rdW s = ⟨((((((true && true) && true) && uptoB 44 t2) && headB shdW (uptoS 44 t2)) && uptoB 44 (headS shdW (uptoS 44 t2))) && headB sgnW (uptoS 44 (headS shdW (uptoS 44 t2)))),
          ((true && uptoB 47 (uptoP 44 t2)) && uptoB 47 (uptoS 47 (uptoP 44 t2))) && uptoB 47 (uptoS 47 (uptoS 47 (uptoP 44 t2))), uptoS 47 (uptoS 47 (uptoS 47 (uptoP 44 t2))),
          ⟨uptoP 47 (uptoP 44 t2), uptoP 47 (uptoS 47 (uptoP 44 t2)), uptoP 47 (uptoS 47 (uptoS 47 (uptoP 44 t2))), headS sgnW (uptoS 44 (headS shdW (uptoS 44 t2))), splitC 59 (uptoP 44 (headS shdW (uptoS 44 t2)))⟩⟩ := by
        unfold rdW
        simp only [e1.1, e1.2, e3, e4, h0, h1]
      rw [hW]
      clear hW e4 e3 e2 e1 hs h0 h1
      by_cases h2 : uptoB 44 t2 = true
      · rw [if_pos h2]
        unfold apC
        generalize uptoP 44 t2 = p at *
        generalize uptoS 44 t2 = u at *
        by_cases h3 : credOk p
        · rw [if_pos h3]
          obtain ⟨k1, k2, k3, k4, k5, k6⟩ := h3
          by_cases h4 : (uptoP 47 (uptoS 47 p)).all chrT = true
          · rw [if_pos h4]
            unfold apH
            by_cases h5 : Lib.hasPrefix (blkL u) shdW = true
            · rw [if_pos h5]
              have f1 : headS shdW u = (blkL u).drop 14 := headS_eq shdW u h5
              have f2 : headB shdW u = true := h5
              rw [f1, f2]
              generalize (blkL u).drop 14 = v at *
              by_cases h6 : uptoB 44 v = true
              · rw [if_pos h6]
                unfold apS
                generalize uptoS 44 v = x at *
                by_cases h7 : Lib.hasPrefix (blkL x) sgnW = true ∧ ((blkL x).drop 10).length = 64
                · rw [if_pos h7]
                  have g1 : headS sgnW x = (blkL x).drop 10 := headS_eq sgnW x h7.1
                  have g2 : headB sgnW x = true := h7.1
                  rw [g1, g2]
                  by_cases h8 : ((blkL x).drop 10).all chrX = true
                  · rw [if_pos h8, if_pos ⟨by simp only [h2, h6, Bool.and_self], by simp only [k1, k2, k3, Bool.and_self], k4, k5, k6, h4, h7.2, h8⟩]
                  · rw [if_neg h8, if_neg (fun h => h8 h.2.2.2.2.2.2.2)]
                · rw [if_neg h7, if_neg]
                  intro h
                  have a1 : headB sgnW x = true := by
                    have := h.1
                    simp only [Bool.and_eq_true] at this
                    exact this.2
                  have a2 := h.2.2.2.2.2.2.1
                  simp only at a2
                  rw [headS_eq sgnW x a1] at a2
                  exact h7 ⟨a1, a2⟩
              · rw [if_neg h6, if_neg]
                intro h
                have := h.1
                simp only [Bool.and_eq_true] at this
                exact h6 this.1.2
            · rw [if_neg h5, if_neg]
              intro h
              have := h.1
              simp only [Bool.and_eq_true] at this
              exact h5 this.1.1.2
          · rw [if_neg h4, if_neg (fun h => h4 h.2.2.2.2.2.1)]
        · rw [if_neg h3, if_neg]
          intro h
          have a := h.2.1
          simp only [Bool.and_eq_true] at a
          exact h3 ⟨a.1.1.2, a.1.2, a.2, h.2.2.1, h.2.2.2.1, h.2.2.2.2.1⟩
      · rw [if_neg h2, if_neg]
        intro h
        have := h.1
        simp only [Bool.and_eq_true] at this
        exact h2 this.1.1.1.2
    · rw [if_neg h1, if_neg]
      intro h
      have := h.1
      unfold rdW at this
      simp only [Bool.and_eq_true] at this
      rw [e1.1, e3] at this
      exact h1 this.1.1.1.1.2
  · rw [if_neg h0, if_neg]
    intro h
    have := h.1
    unfold rdW at this
    simp only [Bool.and_eq_true] at this
    exact h0 this.1.1.1.1.1.1
end Go.Proofs.YtmmoenbmgcplkaaGreatDoor
/- The document's Small, Name, Field, count. -/
set_option linter.unusedVariables false
set_option linter.unusedSimpArgs false
namespace Go.Proofs.YtmmoenbmgcplkaaGreatDoor
open Go Go.RowKit
set_option maxRecDepth 100000 in
set_option maxHeartbeats 1000000 in
theorem RSmall_any (l : List UInt8) (w : World) (hl : l.length ≤ 100000000) : Calls Tryz.prog 85 #[.string ⟨l.toArray⟩] w fun e w' => e = .returned (.string ⟨(smL l).toArray⟩) ∧ Q w w' := by
  obtain ⟨v, w1, hcv, hown, hq1, cap, hv⟩ := bytes_of l w (by omega)
  rw [hv] at hcv hown
  have h0 : midS l 0 = l := by unfold midS smL; simp
  have HOW : Hid (OwnB w w1 (.slice (some ⟨w.heap.size, 0, none⟩) l.length cap) (midS l 0)) := Lib.hid (by rw [h0]; exact hown)
  have HQ1 := Lib.hid hq1
  clear hown hq1 hv h0
  obtain ⟨N, hN⟩ : ∃ N, w.heap.size = N := ⟨_, rfl⟩
  rw [hN] at hcv HOW
  have HN := Lib.hid hN
  clear hN
  go_enter Tryz.func85, Tryz.ntmps85
  go_wp2_with fail
  clear hcv
  go_loopw [4] (fun i wr => ∃ k : Nat, k ≤ l.length ∧ i = .int .i64 (k : Int) ∧ Hid (OwnB w wr (.slice (some ⟨N, 0, none⟩) l.length cap) (midS l k)) ∧ Hid (Q w wr)) (fun i _ => l.length - (intOf i).toNat)
  case atStart => exact ⟨0, by omega, rfl, HOW, HQ1⟩
  case round =>
    clear HOW HQ1
    obtain ⟨k, hk, rfl, HO, HQ⟩ := hrel
    by_cases hlt : k < l.length
    · have g1 : decide (k < l.length) = true := by simpa using hlt
      obtain ⟨g, cc, hv, _, _, _, hcell⟩ := HO.out.pos (by rw [midS_len]; omega)
      rw [midS_len] at hv
      cases hv
      have hce := hcell k (by rw [midS_len]; exact hlt)
      rw [midS_at l k hlt] at hce
      obtain ⟨cx, fx⟩ := hce
      have HSET := Lib.hid (midS_set l k hlt)
      have HSAME := Lib.hid (midS_same l k hlt)
      clear hcell
      obtain ⟨b, hgb⟩ : ∃ b, gB l k = b := ⟨_, rfl⟩
      rw [hgb] at cx HSET HSAME
      have hsn := smB_nat b
      have hb8 := b.toNat_lt
      have hcs : (¬ 65 ≤ (b.toNat : Int)) ∨ (65 ≤ (b.toNat : Int) ∧ ¬ (b.toNat : Int) ≤ 90) ∨ (65 ≤ (b.toNat : Int) ∧ (b.toNat : Int) ≤ 90) := by omega
      rename World => wa
      rcases hcs with h1 | ⟨h1, h2⟩ | ⟨h1, h2⟩
      · have HM : Hid (midS l k = midS l (k + 1)) := Lib.hid (HSAME.out (UInt8.toNat_inj.1 (by rw [hsn, if_neg (by omega)])))
        clear hsn HSET HSAME
        go_wp2_with fail
        go_roundw
        case rel => exact ⟨k + 1, by omega, by go_num, by rw [← HM.out]; exact HO, HQ⟩
        case measure => simp [intOf]; omega
      · have HM : Hid (midS l k = midS l (k + 1)) := Lib.hid (HSAME.out (UInt8.toNat_inj.1 (by rw [hsn, if_neg (by omega)])))
        have d90 : decide ((b.toNat : Int) ≤ 90) = false := by simp; omega
        clear hsn HSET HSAME
        go_wp2_with fail
        go_roundw
        case rel => exact ⟨k + 1, by omega, by go_num, by rw [← HM.out]; exact HO, HQ⟩
        case measure => simp [intOf]; omega
      · have d90 : decide ((b.toNat : Int) ≤ 90) = true := by simp; omega
        have hsm : ((smB b).toNat : Int) = (b.toNat : Int) + 32 := by rw [hsn, if_pos (by omega)]; omega
        have ho := HO.out.set k (smB b)
        rw [HSET.out, hsm] at ho
        have HO2 := Lib.hid ho
        have HQ2 : Hid (Q w (wa.setCell ⟨N, k, none⟩ (.int .u8 ((b.toNat : Int) + 32)))) := Lib.hid (HQ.out.setNew (by rw [HN.out]; exact Nat.le_refl _) _)
        clear hsn hsm ho HSET HSAME
        go_wp2_with fail
        go_roundw
        case rel => exact ⟨k + 1, by omega, by go_num, HO2, HQ2⟩
        case measure => simp [intOf]; omega
    · obtain rfl : k = l.length := by omega
      have he : midS l l.length = smL l := by unfold midS; simp
      have ho := HO.out
      rw [he] at ho
      have hcv := conv_b ho
      have hsl : (smL l).length = l.length := by unfold smL; simp
      clear he ho hlt
      go_wp2_with fail
      go_ret
      exact ⟨rfl, HQ.out⟩
set_option maxRecDepth 100000 in
theorem Digit16_any (b : UInt8) (w : World) : Calls Tryz.prog 133 #[.int .u8 (b.toNat : Int)] w fun e w' => e = .returned (.bool (chrT b)) ∧ w' = w := by
  have hb := b.toNat_lt
  have hR : chrT b = (decide (48 ≤ b.toNat) && decide (b.toNat ≤ 57)) := rfl
  have HR := Lib.hid hR
  clear hR
  have hcs : ¬ (48 ≤ (b.toNat : Int)) ∨ (48 ≤ (b.toNat : Int) ∧ (b.toNat : Int) ≤ 57) ∨ (48 ≤ (b.toNat : Int) ∧ ¬ (b.toNat : Int) ≤ 57) := by omega
  rcases hcs with h1 | ⟨h1, h2⟩ | ⟨h1, h2⟩
  · go_enter Tryz.func133, Tryz.ntmps133
    go_wp2_with fail
    go_ret
    exact ⟨by rw [HR.out]; simp; omega, rfl⟩
  · have d : decide ((b.toNat : Int) ≤ 57) = true := by simp; omega
    go_enter Tryz.func133, Tryz.ntmps133
    go_wp2_with fail
    go_ret
    exact ⟨by rw [HR.out]; simp; omega, rfl⟩
  · have d : decide ((b.toNat : Int) ≤ 57) = false := by simp; omega
    go_enter Tryz.func133, Tryz.ntmps133
    go_wp2_with fail
    go_ret
    exact ⟨by rw [HR.out]; simp; omega, rfl⟩
def chrF (b : UInt8) : Bool := (decide (65 ≤ b.toNat) && decide (b.toNat ≤ 90)) || (decide (97 ≤ b.toNat) && decide (b.toNat ≤ 122)) || chrT b || decide (b.toNat = 45) || decide (b.toNat = 95)
def nameF (s : List UInt8) : Bool := s.all chrF && !s.isEmpty
theorem chrF_nat (b : UInt8) : chrF b = true ↔ ((65 ≤ b.toNat ∧ b.toNat ≤ 90) ∨ (97 ≤ b.toNat ∧ b.toNat ≤ 122) ∨ (48 ≤ b.toNat ∧ b.toNat ≤ 57) ∨ b.toNat = 45 ∨ b.toNat = 95) := by
  unfold chrF chrT
  simp only [Bool.or_eq_true, Bool.and_eq_true, decide_eq_true_eq]
  constructor <;> (intro h; omega)
set_option maxRecDepth 100000 in
set_option maxHeartbeats 4000000 in
theorem RName_any (s : List UInt8) (w : World) (hl : s.length ≤ 100000000) : Calls Tryz.prog 84 #[.string ⟨s.toArray⟩] w fun e w' => e = .returned (.bool (nameF s)) ∧ w' = w := by
  go_enter Tryz.func84, Tryz.ntmps84
  go_wp2_with fail
  go_loopw [3] (fun i wr => ∃ k : Nat, k ≤ s.length ∧ i = .int .i64 (k : Int) ∧ Hid ((s.take k).all chrF = true) ∧ wr = w) (fun i _ => s.length - (intOf i).toNat)
  case atStart => exact ⟨0, by omega, rfl, Lib.hid (by simp), rfl⟩
  case round =>
    obtain ⟨k, hk, rfl, HA, rfl⟩ := hrel
    by_cases hlt : k < s.length
    · have g1 : decide (k < s.length) = true := by simpa using hlt
      have HSN := Lib.hid (all_snocW s k hlt chrF)
      have HB := Lib.hid (fun h => all_bad (p := chrF) hlt h)
      obtain ⟨b, hgb⟩ : ∃ b, gB s k = b := ⟨_, rfl⟩
      rw [hgb] at HSN HB
      have HDg := Lib.hid (fun W => Digit16_any b W)
      have hok := chrF_nat b
      have hok2 : chrF b = false ↔ ¬ ((65 ≤ b.toNat ∧ b.toNat ≤ 90) ∨ (97 ≤ b.toNat ∧ b.toNat ≤ 122) ∨ (48 ≤ b.toNat ∧ b.toNat ≤ 57) ∨ b.toNat = 45 ∨ b.toNat = 95) := by rw [← hok]; simp
      have hdt : chrT b = (decide (48 ≤ b.toNat) && decide (b.toNat ≤ 57)) := rfl
      have hb8 := b.toNat_lt
      have hcs : ((65 : Int) ≤ b.toNat ∧ (b.toNat : Int) ≤ 90) ∨ ((97 : Int) ≤ b.toNat ∧ (b.toNat : Int) ≤ 122) ∨ ((48 : Int) ≤ b.toNat ∧ (b.toNat : Int) ≤ 57) ∨ ((b.toNat : Int) = 45) ∨ ((b.toNat : Int) = 95) ∨ ((b.toNat : Int) < 45) ∨ ((45 : Int) < b.toNat ∧ (b.toNat : Int) < 48) ∨ ((57 : Int) < b.toNat ∧ (b.toNat : Int) < 65) ∨ ((90 : Int) < b.toNat ∧ (b.toNat : Int) < 97 ∧ (b.toNat : Int) ≠ 95) ∨ ((122 : Int) < b.toNat) := by omega
      have HOK := Lib.hid hok
      have HOK2 := Lib.hid hok2
      have HDT := Lib.hid hdt
      clear hok hok2 hdt
      rcases hcs with ⟨a1, a2⟩ | ⟨a1, a2⟩ | ⟨a1, a2⟩ | a1 | a1 | a1 | ⟨a1, a2⟩ | ⟨a1, a2⟩ | ⟨a1, a2, a3⟩ | a1
      · have HA2 : Hid ((s.take (k + 1)).all chrF = true) := Lib.hid (by rw [HSN.out, HA.out, HOK.out.2 (by omega)]; rfl)
        have q_ge65 : decide ((65 : Int) ≤ (b.toNat : Int)) = true := by simp; omega
        have q_le90 : decide ((b.toNat : Int) ≤ 90) = true := by simp; omega
        have HD2 : Hid (chrT b = chrT b) := Lib.hid rfl
        clear HOK HOK2 HDT HSN HB
        go_wp2_with (go_at_call 133; refine (HDg.out _).mono ?_; rintro e wx ⟨rfl, rfl⟩; rw [HD2.out])
        go_roundw
        case rel => exact ⟨k + 1, by omega, by go_num, HA2, trivial⟩
        case measure => simp [intOf]; omega
      · have HA2 : Hid ((s.take (k + 1)).all chrF = true) := Lib.hid (by rw [HSN.out, HA.out, HOK.out.2 (by omega)]; rfl)
        have q_ge65 : decide ((65 : Int) ≤ (b.toNat : Int)) = true := by simp; omega
        have q_le90 : decide ((b.toNat : Int) ≤ 90) = false := by simp; omega
        have q_ge97 : decide ((97 : Int) ≤ (b.toNat : Int)) = true := by simp; omega
        have q_le122 : decide ((b.toNat : Int) ≤ 122) = true := by simp; omega
        have HD2 : Hid (chrT b = chrT b) := Lib.hid rfl
        clear HOK HOK2 HDT HSN HB
        go_wp2_with (go_at_call 133; refine (HDg.out _).mono ?_; rintro e wx ⟨rfl, rfl⟩; rw [HD2.out])
        go_roundw
        case rel => exact ⟨k + 1, by omega, by go_num, HA2, trivial⟩
        case measure => simp [intOf]; omega
      · have HA2 : Hid ((s.take (k + 1)).all chrF = true) := Lib.hid (by rw [HSN.out, HA.out, HOK.out.2 (by omega)]; rfl)
        have q_ge65 : decide ((65 : Int) ≤ (b.toNat : Int)) = false := by simp; omega
        have q_ge97 : decide ((97 : Int) ≤ (b.toNat : Int)) = false := by simp; omega
        have HD2 : Hid (chrT b = true) := Lib.hid (by rw [HDT.out]; simp; omega)
        clear HOK HOK2 HDT HSN HB
        go_wp2_with (go_at_call 133; refine (HDg.out _).mono ?_; rintro e wx ⟨rfl, rfl⟩; rw [HD2.out])
        go_roundw
        case rel => exact ⟨k + 1, by omega, by go_num, HA2, trivial⟩
        case measure => simp [intOf]; omega
      · have HA2 : Hid ((s.take (k + 1)).all chrF = true) := Lib.hid (by rw [HSN.out, HA.out, HOK.out.2 (by omega)]; rfl)
        have q_ge65 : decide ((65 : Int) ≤ (b.toNat : Int)) = false := by simp; omega
        have q_ge97 : decide ((97 : Int) ≤ (b.toNat : Int)) = false := by simp; omega
        have HD2 : Hid (chrT b = false) := Lib.hid (by rw [HDT.out]; simp; omega)
        have q_ne45 : ((b.toNat : Int) == 45) = true := by rw [beq_iff_eq]; omega
        have p_ne45 : ((b.toNat : Int) != 45) = false := by rw [bne_eq_false_iff_eq]; omega
        clear a1
        clear HOK HOK2 HDT HSN HB
        go_wp2_with (go_at_call 133; refine (HDg.out _).mono ?_; rintro e wx ⟨rfl, rfl⟩; rw [HD2.out])
        go_roundw
        case rel => exact ⟨k + 1, by omega, by go_num, HA2, trivial⟩
        case measure => simp [intOf]; omega
      · have HA2 : Hid ((s.take (k + 1)).all chrF = true) := Lib.hid (by rw [HSN.out, HA.out, HOK.out.2 (by omega)]; rfl)
        have q_ge65 : decide ((65 : Int) ≤ (b.toNat : Int)) = true := by simp; omega
        have q_le90 : decide ((b.toNat : Int) ≤ 90) = false := by simp; omega
        have q_ge97 : decide ((97 : Int) ≤ (b.toNat : Int)) = false := by simp; omega
        have HD2 : Hid (chrT b = false) := Lib.hid (by rw [HDT.out]; simp; omega)
        have q_ne45 : ((b.toNat : Int) == 45) = false := by rw [beq_eq_false_iff_ne]; omega
        have p_ne45 : ((b.toNat : Int) != 45) = true := by rw [bne_iff_ne]; omega
        have q_ne95 : ((b.toNat : Int) == 95) = true := by rw [beq_iff_eq]; omega
        have p_ne95 : ((b.toNat : Int) != 95) = false := by rw [bne_eq_false_iff_eq]; omega
        clear a1
        clear HOK HOK2 HDT HSN HB
        go_wp2_with (go_at_call 133; refine (HDg.out _).mono ?_; rintro e wx ⟨rfl, rfl⟩; rw [HD2.out])
        go_roundw
        case rel => exact ⟨k + 1, by omega, by go_num, HA2, trivial⟩
        case measure => simp [intOf]; omega
      · have HF : Hid (nameF s = false) := Lib.hid (by unfold nameF; rw [HB.out (HOK2.out.2 (by omega))]; rfl)
        have q_ge65 : decide ((65 : Int) ≤ (b.toNat : Int)) = false := by simp; omega
        have q_ge97 : decide ((97 : Int) ≤ (b.toNat : Int)) = false := by simp; omega
        have HD2 : Hid (chrT b = false) := Lib.hid (by rw [HDT.out]; simp; omega)
        have q_ne45 : ((b.toNat : Int) == 45) = false := by rw [beq_eq_false_iff_ne]; omega
        have p_ne45 : ((b.toNat : Int) != 45) = true := by rw [bne_iff_ne]; omega
        have q_ne95 : ((b.toNat : Int) == 95) = false := by rw [beq_eq_false_iff_ne]; omega
        have p_ne95 : ((b.toNat : Int) != 95) = true := by rw [bne_iff_ne]; omega
        clear HOK HOK2 HDT HSN HB HA
        go_wp2_with (go_at_call 133; refine (HDg.out _).mono ?_; rintro e wx ⟨rfl, rfl⟩; rw [HD2.out])
        go_ret
        exact ⟨by rw [HF.out]; rfl, rfl⟩
      · have HF : Hid (nameF s = false) := Lib.hid (by unfold nameF; rw [HB.out (HOK2.out.2 (by omega))]; rfl)
        have q_ge65 : decide ((65 : Int) ≤ (b.toNat : Int)) = false := by simp; omega
        have q_ge97 : decide ((97 : Int) ≤ (b.toNat : Int)) = false := by simp; omega
        have HD2 : Hid (chrT b = false) := Lib.hid (by rw [HDT.out]; simp; omega)
        have q_ne45 : ((b.toNat : Int) == 45) = false := by rw [beq_eq_false_iff_ne]; omega
        have p_ne45 : ((b.toNat : Int) != 45) = true := by rw [bne_iff_ne]; omega
        have q_ne95 : ((b.toNat : Int) == 95) = false := by rw [beq_eq_false_iff_ne]; omega
        have p_ne95 : ((b.toNat : Int) != 95) = true := by rw [bne_iff_ne]; omega
        clear HOK HOK2 HDT HSN HB HA
        go_wp2_with (go_at_call 133; refine (HDg.out _).mono ?_; rintro e wx ⟨rfl, rfl⟩; rw [HD2.out])
        go_ret
        exact ⟨by rw [HF.out]; rfl, rfl⟩
      · have HF : Hid (nameF s = false) := Lib.hid (by unfold nameF; rw [HB.out (HOK2.out.2 (by omega))]; rfl)
        have q_ge65 : decide ((65 : Int) ≤ (b.toNat : Int)) = false := by simp; omega
        have q_ge97 : decide ((97 : Int) ≤ (b.toNat : Int)) = false := by simp; omega
        have HD2 : Hid (chrT b = false) := Lib.hid (by rw [HDT.out]; simp; omega)
        have q_ne45 : ((b.toNat : Int) == 45) = false := by rw [beq_eq_false_iff_ne]; omega
        have p_ne45 : ((b.toNat : Int) != 45) = true := by rw [bne_iff_ne]; omega
        have q_ne95 : ((b.toNat : Int) == 95) = false := by rw [beq_eq_false_iff_ne]; omega
        have p_ne95 : ((b.toNat : Int) != 95) = true := by rw [bne_iff_ne]; omega
        clear HOK HOK2 HDT HSN HB HA
        go_wp2_with (go_at_call 133; refine (HDg.out _).mono ?_; rintro e wx ⟨rfl, rfl⟩; rw [HD2.out])
        go_ret
        exact ⟨by rw [HF.out]; rfl, rfl⟩
      · have HF : Hid (nameF s = false) := Lib.hid (by unfold nameF; rw [HB.out (HOK2.out.2 (by omega))]; rfl)
        have q_ge65 : decide ((65 : Int) ≤ (b.toNat : Int)) = true := by simp; omega
        have q_le90 : decide ((b.toNat : Int) ≤ 90) = false := by simp; omega
        have q_ge97 : decide ((97 : Int) ≤ (b.toNat : Int)) = false := by simp; omega
        have HD2 : Hid (chrT b = false) := Lib.hid (by rw [HDT.out]; simp; omega)
        have q_ne45 : ((b.toNat : Int) == 45) = false := by rw [beq_eq_false_iff_ne]; omega
        have p_ne45 : ((b.toNat : Int) != 45) = true := by rw [bne_iff_ne]; omega
        have q_ne95 : ((b.toNat : Int) == 95) = false := by rw [beq_eq_false_iff_ne]; omega
        have p_ne95 : ((b.toNat : Int) != 95) = true := by rw [bne_iff_ne]; omega
        clear HOK HOK2 HDT HSN HB HA
        go_wp2_with (go_at_call 133; refine (HDg.out _).mono ?_; rintro e wx ⟨rfl, rfl⟩; rw [HD2.out])
        go_ret
        exact ⟨by rw [HF.out]; rfl, rfl⟩
      · have HF : Hid (nameF s = false) := Lib.hid (by unfold nameF; rw [HB.out (HOK2.out.2 (by omega))]; rfl)
        have q_ge65 : decide ((65 : Int) ≤ (b.toNat : Int)) = true := by simp; omega
        have q_le90 : decide ((b.toNat : Int) ≤ 90) = false := by simp; omega
        have q_ge97 : decide ((97 : Int) ≤ (b.toNat : Int)) = true := by simp; omega
        have q_le122 : decide ((b.toNat : Int) ≤ 122) = false := by simp; omega
        have HD2 : Hid (chrT b = false) := Lib.hid (by rw [HDT.out]; simp; omega)
        have q_ne45 : ((b.toNat : Int) == 45) = false := by rw [beq_eq_false_iff_ne]; omega
        have p_ne45 : ((b.toNat : Int) != 45) = true := by rw [bne_iff_ne]; omega
        have q_ne95 : ((b.toNat : Int) == 95) = false := by rw [beq_eq_false_iff_ne]; omega
        have p_ne95 : ((b.toNat : Int) != 95) = true := by rw [bne_iff_ne]; omega
        clear HOK HOK2 HDT HSN HB HA
        go_wp2_with (go_at_call 133; refine (HDg.out _).mono ?_; rintro e wx ⟨rfl, rfl⟩; rw [HD2.out])
        go_ret
        exact ⟨by rw [HF.out]; rfl, rfl⟩
    · obtain rfl : k = s.length := by omega
      have hA := HA.out
      rw [List.take_length] at hA
      have HR : Hid (nameF s = !s.isEmpty) := Lib.hid (by unfold nameF; rw [hA]; rfl)
      clear hA HA hlt
      rcases hE : s.isEmpty with _ | _
      · rw [hE] at HR
        go_wp2_with fail
        go_ret
        refine ⟨?_, rfl⟩
        rw [HR.out]
        first | rfl | (show Ending.returned (.bool _) = .returned (.bool true); simp [bne, hE])
      · rw [hE] at HR
        go_wp2_with fail
        go_ret
        refine ⟨?_, rfl⟩
        rw [HR.out]
        first | rfl | (show Ending.returned (.bool _) = .returned (.bool false); simp [bne, hE])
theorem field_snoc_dup {ps : List PairD} {p : PairD} {t : List UInt8} (h : isN t p = true) (hm : manyL ps t ≠ 0) : fieldL (ps ++ [p]) t = none := by
  unfold fieldL
  rw [List.findIdx?_append]
  rcases hf : ps.findIdx? (isN t) with _ | k
  · exfalso
    apply hm
    unfold manyL
    rw [List.countP_eq_zero]
    intro q hq
    have := List.findIdx?_eq_none_iff.1 hf q hq
    unfold isN at this
    simpa using this
  · have hk := (List.findIdx?_eq_some_iff_findIdx_eq.1 hf).1
    show (if (List.drop (k + 1) (ps ++ [p])).any (isN t) = true then none else some (gU (ps ++ [p]) k).2) = none
    rw [List.drop_append_of_le_length (by omega), List.any_append]
    simp [h]
theorem many_one (ps : List PairD) (p : PairD) (t : List UInt8) : manyL (ps ++ [p]) t = manyL ps t + if isN t p = true then 1 else 0 := by
  rw [many_app]
  congr 1
  unfold manyL isN
  simp only [List.countP_cons, List.countP_nil, Nat.zero_add]
theorem field_none0 {ps : List PairD} {t : List UInt8} (h : manyL ps t = 0) : fieldL ps t = none := by
  unfold fieldL
  rw [List.findIdx?_eq_none_iff.2 (many_none h)]
/-- What the document's Field has seen. -/
def FldAt (ps : List PairD) (t : List UInt8) (k n : Nat) (v : List UInt8) : Prop := manyL (ps.take k) t = n ∧ fieldL (ps.take k) t = if n = 1 then some v else none
theorem FldAt.no {ps : List PairD} {t : List UInt8} {k n : Nat} {v : List UInt8} (h : FldAt ps t k n v) (hk : k < ps.length) (hn : smL (gU ps k).1 ≠ smL t) : FldAt ps t (k + 1) n v := by
  have hi := isN_ne hn
  unfold FldAt
  rw [take_snocP ps k hk, many_one, hi, field_snoc_no hi]
  exact ⟨by rw [h.1]; rfl, h.2⟩
theorem FldAt.yes {ps : List PairD} {t : List UInt8} {k n : Nat} {v : List UInt8} (h : FldAt ps t k n v) (hk : k < ps.length) (hn : smL (gU ps k).1 = smL t) : FldAt ps t (k + 1) (n + 1) (gU ps k).2 := by
  have hi : isN t (gU ps k) = true := by unfold isN; simpa using hn
  unfold FldAt
  rw [take_snocP ps k hk, many_one, hi]
  refine ⟨by rw [h.1]; rfl, ?_⟩
  by_cases h0 : n = 0
  · subst h0
    rw [field_new h.1 hi, if_pos rfl]
  · rw [field_snoc_dup hi (by rw [h.1]; exact h0), if_neg (by omega)]
set_option maxRecDepth 100000 in
set_option maxHeartbeats 4000000 in
theorem RField_any (A : Option Addr) (n cap : Nat) (ps : List PairD) (t : List UInt8) (w : World) (h : PairsAt w A n ps) (hn : n ≤ 10000000) (hps : ∀ p ∈ ps, p.1.length ≤ 10000000 ∧ p.2.length ≤ 10000000) (ht : t.length ≤ 100000000) :
    Calls Tryz.prog 40 #[.slice A n cap, .string ⟨t.toArray⟩] w fun e w' => e = .returned (.tuple #[.string ⟨((fieldL ps t).getD []).toArray⟩, .bool (fieldL ps t).isSome]) ∧ Q w w' := by
  obtain rfl := h.1
  have HP := Lib.hid h
  have HPS := Lib.hid hps
  have HSm := Lib.hid (fun (l : List UInt8) W (hl : l.length ≤ 100000000) => RSmall_any l W hl)
  clear h hps
  obtain ⟨T, hT⟩ : ∃ T, smL t = T := ⟨_, rfl⟩
  have HTs : Hid (∀ W, Calls Tryz.prog 85 #[.string ⟨t.toArray⟩] W fun e w' => e = .returned (.string ⟨T.toArray⟩) ∧ Q W w') := Lib.hid (fun W => by rw [← hT]; exact HSm.out t W ht)
  have HT := Lib.hid hT
  clear hT
  go_enter Tryz.func40, Tryz.ntmps40
  go_wp2_with fail
  refine (HTs.out _).mono ?_
  rintro e w0 ⟨rfl, hq0⟩
  have HQ0 := Lib.hid hq0
  clear hq0
  go_wp2_with fail
  go_loopw [6, 7, 9] (fun nv vv i wr => ∃ (k D : Nat) (v : List UInt8), k ≤ ps.length ∧ D ≤ k ∧ nv = .int .i64 (D : Int) ∧ vv = .string ⟨v.toArray⟩ ∧ i = .int .i64 (k : Int) ∧ Hid (FldAt ps t k D v) ∧ Hid (Q w wr)) (fun _ _ i _ => ps.length - (intOf i).toNat)
  case atStart => exact ⟨0, 0, [], by omega, by omega, rfl, rfl, rfl, Lib.hid ⟨by simp [manyL], by simp [fieldL]⟩, HQ0⟩
  case round =>
    obtain ⟨k, D, v, hk, hDk, rfl, rfl, rfl, HD, HQ⟩ := hrel
    by_cases hlt : k < ps.length
    · have g1 : decide (k < ps.length) = true := by simpa using hlt
      obtain ⟨g, off, rfl, e0, e1⟩ := (HP.out.q HQ.out).at hlt
      obtain ⟨⟨x, y⟩, hxy⟩ : ∃ p, gU ps k = p := ⟨_, rfl⟩
      have HXY := Lib.hid hxy
      rw [hxy] at e0 e1
      simp only at e0 e1
      have hxl : x.length ≤ 10000000 := by
        have := HPS.out _ (List.getElem_mem hlt)
        rw [← gU_get _ _ hlt, hxy] at this; exact this.1
      have HLT := Lib.hid hlt
      clear hxy
      rename World => wa
      go_wp2_with fail
      refine (HSm.out x _ (by omega)).mono ?_
      rintro e wb ⟨rfl, hqb⟩
      have e1b := hqb.cell e1
      have HQb := Lib.hid (HQ.out.trans hqb)
      clear hqb e0 e1
      by_cases hsm : smL x = T
      · have q1 : (smL x == T) = true := by simpa using hsm
        have HN : Hid (FldAt ps t (k + 1) (D + 1) y) := Lib.hid (by have := HD.out.yes HLT.out (by rw [HXY.out]; exact hsm.trans HT.out.symm); rw [HXY.out] at this; exact this)
        clear hsm
        generalize smL x = X at q1 ⊢
        go_wp2_with fail
        go_roundw
        case rel => exact ⟨k + 1, D + 1, y, by omega, by omega, by go_num, rfl, by go_num, HN, HQb⟩
        case measure => simp [intOf]; omega
      · have q1 : (smL x == T) = false := by simpa using hsm
        have HN : Hid (FldAt ps t (k + 1) D v) := Lib.hid (HD.out.no HLT.out (by rw [HXY.out]; exact fun e => hsm (e.trans HT.out)))
        clear hsm
        generalize smL x = X at q1 ⊢
        go_wp2_with fail
        go_roundw
        case rel => exact ⟨k + 1, D, v, by omega, by omega, rfl, rfl, by go_num, HN, HQb⟩
        case measure => simp [intOf]; omega
    · obtain rfl : k = ps.length := by omega
      have hd := HD.out
      unfold FldAt at hd
      rw [List.take_length] at hd
      have HDD := Lib.hid hd.2
      clear hd HD hlt
      by_cases h1 : D = 1
      · have q1 : ((D : Int) != 1) = false := by rw [h1]; rfl
        have HF : Hid (fieldL ps t = some v) := Lib.hid (by rw [HDD.out, if_pos h1])
        clear h1
        go_wp2_with fail
        go_ret2
        exact ⟨by rw [HF.out]; rfl, HQ.out⟩
      · have q1 : ((D : Int) != 1) = true := by simp only [bne_iff_ne, ne_eq]; omega
        have HF : Hid (fieldL ps t = none) := Lib.hid (by rw [HDD.out, if_neg h1])
        clear h1
        go_wp2_with fail
        go_ret2
        exact ⟨by rw [HF.out]; rfl, HQ.out⟩
set_option maxRecDepth 100000 in
set_option maxHeartbeats 4000000 in
theorem RCount_any (A : Option Addr) (n cap : Nat) (ps : List PairD) (t : List UInt8) (w : World) (h : PairsAt w A n ps) (hn : n ≤ 10000000) (hps : ∀ p ∈ ps, p.1.length ≤ 10000000 ∧ p.2.length ≤ 10000000) (ht : smL t = t) :
    Calls Tryz.prog 50 #[.slice A n cap, .string ⟨t.toArray⟩] w fun e w' => e = .returned (.int .i64 (manyL ps t : Nat)) ∧ Q w w' := by
  obtain rfl := h.1
  have HP := Lib.hid h
  have HPS := Lib.hid hps
  have HT := Lib.hid ht
  have HSm := Lib.hid (fun (l : List UInt8) W (hl : l.length ≤ 100000000) => RSmall_any l W hl)
  clear h hps ht
  go_enter Tryz.func50, Tryz.ntmps50
  go_wp2_with fail
  go_loopw [5, 6] (fun nv i wr => ∃ (k D : Nat), k ≤ ps.length ∧ D ≤ k ∧ nv = .int .i64 (D : Int) ∧ i = .int .i64 (k : Int) ∧ Hid (manyL (ps.take k) t = D) ∧ Hid (Q w wr)) (fun _ i _ => ps.length - (intOf i).toNat)
  case atStart => exact ⟨0, 0, by omega, by omega, rfl, rfl, Lib.hid (by simp [manyL]), Lib.hid (Q.refl _)⟩
  case round =>
    obtain ⟨k, D, hk, hDk, rfl, rfl, HD, HQ⟩ := hrel
    by_cases hlt : k < ps.length
    · have g1 : decide (k < ps.length) = true := by simpa using hlt
      obtain ⟨g, off, rfl, e0, e1⟩ := (HP.out.q HQ.out).at hlt
      have HSN := Lib.hid (many_snoc ps t k hlt)
      obtain ⟨⟨x, y⟩, hxy⟩ : ∃ p, gU ps k = p := ⟨_, rfl⟩
      rw [hxy] at e0 e1 HSN
      simp only at e0 e1 HSN
      have hxl : x.length ≤ 10000000 := by
        have := HPS.out _ (List.getElem_mem hlt)
        rw [← gU_get _ _ hlt, hxy] at this; exact this.1
      clear hxy
      rename World => wa
      go_wp2_with fail
      refine (HSm.out x _ (by omega)).mono ?_
      rintro e wb ⟨rfl, hqb⟩
      have HQb := Lib.hid (HQ.out.trans hqb)
      clear hqb e0 e1
      by_cases hsm : smL x = t
      · have q1 : (smL x == t) = true := by simpa using hsm
        have HN : Hid (manyL (ps.take (k + 1)) t = D + 1) := Lib.hid (by rw [HSN.out, HD.out, if_pos (hsm.trans HT.out.symm)])
        clear hsm HSN
        generalize smL x = X at q1 ⊢
        go_wp2_with fail
        go_roundw
        case rel => exact ⟨k + 1, D + 1, by omega, by omega, by go_num, by go_num, HN, HQb⟩
        case measure => simp [intOf]; omega
      · have q1 : (smL x == t) = false := by simpa using hsm
        have HN : Hid (manyL (ps.take (k + 1)) t = D) := Lib.hid (by rw [HSN.out, HD.out, if_neg (fun e => hsm (e.trans HT.out))]; rfl)
        clear hsm HSN
        generalize smL x = X at q1 ⊢
        go_wp2_with fail
        go_roundw
        case rel => exact ⟨k + 1, D, by omega, by omega, rfl, by go_num, HN, HQb⟩
        case measure => simp [intOf]; omega
    · obtain rfl : k = ps.length := by omega
      have hd := HD.out
      rw [List.take_length] at hd
      have HDD := Lib.hid hd
      clear hd HD hlt
      go_wp2_with fail
      go_ret
      rw [HDD.out]
      exact ⟨rfl, HQ.out⟩
end Go.Proofs.YtmmoenbmgcplkaaGreatDoor
/- The document's joined, squeezed, names, Word, starts, upto, blanks, has. -/
set_option linter.unusedVariables false
set_option linter.unusedSimpArgs false
namespace Go.Proofs.YtmmoenbmgcplkaaGreatDoor
open Go Go.RowKit
theorem take_snocG (ls : List (List UInt8)) (k : Nat) (h : k < ls.length) : ls.take (k + 1) = ls.take k ++ [gL ls k] := by
  rw [List.take_succ_eq_append_getElem h, gL_get ls k h]
theorem join_next (c : UInt8) (ls : List (List UInt8)) (k : Nat) (h : k < ls.length) : Lib.join (ls.take (k + 1)) [c] = if k = 0 then gL ls k else Lib.join (ls.take k) [c] ++ (c :: gL ls k) := by
  rw [take_snocG ls k h]
  by_cases h0 : k = 0
  · subst h0; rw [if_pos rfl, List.take_zero, List.nil_append, join_one]
  · rw [if_neg h0, join_snocC c _ _ (by intro e; have := congrArg List.length e; rw [List.length_take, List.length_nil] at this; omega)]
set_option maxRecDepth 100000 in
set_option maxHeartbeats 2000000 in
theorem RJoined_any (A : Option Addr) (n cap : Nat) (ls : List (List UInt8)) (c : UInt8) (w : World) (h : NmAt w A n ls) (hs : sumU ls ≤ 100000000) :
    Calls Tryz.prog 42 #[.slice A n cap, .string ⟨#[c]⟩] w fun e w' => e = .returned (.string ⟨(Lib.join ls [c]).toArray⟩) ∧ w' = w := by
  obtain rfl := h.1
  have HP := Lib.hid h
  have HS := Lib.hid hs
  have hlen : ls.length ≤ 100000000 := Nat.le_trans (len_sumU ls) hs
  clear h hs
  go_enter Tryz.func42, Tryz.ntmps42
  go_wp2_with fail
  go_loopw [5, 6] (fun sv i wr => ∃ (k : Nat) (s : List UInt8), k ≤ ls.length ∧ sv = .string ⟨s.toArray⟩ ∧ i = .int .i64 (k : Int) ∧ Hid (s = Lib.join (ls.take k) [c]) ∧ s.length ≤ 100000000 ∧ wr = w) (fun _ i _ => ls.length - (intOf i).toNat)
  case atStart => exact ⟨0, [], by omega, rfl, rfl, Lib.hid (by simp [Lib.join, List.intercalate]), by simp, rfl⟩
  case round =>
    obtain ⟨k, s, hk, rfl, rfl, HD, hsl, rfl⟩ := hrel
    by_cases hlt : k < ls.length
    · have g1 : decide (k < ls.length) = true := by simpa using hlt
      obtain ⟨g, off, rfl, e0⟩ := HP.out.at hlt
      have HN := Lib.hid (join_next c ls k hlt)
      have hjl : (Lib.join (ls.take (k + 1)) [c]).length ≤ 100000000 := Nat.le_trans (sum_len_join c _) (Nat.le_trans (sumU_take ls (k + 1)) HS.out)
      obtain ⟨x, hx⟩ : ∃ x, gL ls k = x := ⟨_, rfl⟩
      rw [hx] at e0 HN
      clear hx
      rcases k with _ | m
      · have HN2 : Hid (s ++ x = Lib.join (ls.take (0 + 1)) [c]) := Lib.hid (by rw [HN.out, if_pos rfl, HD.out]; simp [Lib.join, List.intercalate])
        have hl2 : (s ++ x).length ≤ 100000000 := by rw [HN2.out]; exact hjl
        have hxl : x.length ≤ 100000000 := by rw [List.length_append] at hl2; omega
        rw [Nat.add_zero] at e0
        rw [show ((0 : Nat) : Int) = 0 from rfl]
        clear HN HD hjl
        go_wp2_with fail
        go_roundw
        case rel => exact ⟨0 + 1, s ++ x, by omega, rfl, by go_num, HN2, hl2, trivial⟩
        case measure => simp [intOf]; omega
      · have HN2 : Hid (s ++ c :: x = Lib.join (ls.take (m + 1 + 1)) [c]) := Lib.hid (by rw [HN.out, if_neg (by omega), HD.out])
        have hl2 : (s ++ c :: x).length ≤ 100000000 := by rw [HN2.out]; exact hjl
        have hxl : x.length ≤ 100000000 := by rw [List.length_append, List.length_cons] at hl2; omega
        have hmi : 0 < (m : Int) + 1 := by omega
        clear HN HD hjl
        go_wp2_with fail
        go_roundw
        case rel => exact ⟨m + 1 + 1, s ++ c :: x, by omega, by simp, by go_num, HN2, hl2, trivial⟩
        case measure => simp [intOf]; omega
    · obtain rfl : k = ls.length := by omega
      have hd := HD.out
      rw [List.take_length] at hd
      have HDD := Lib.hid hd
      clear hd HD hlt
      go_wp2_with fail
      go_ret
      refine ⟨?_, rfl⟩
      rw [HDD.out]
      rfl
theorem stepQ_len (st : List UInt8 × Bool) (b : UInt8) : (stepQ st b).1.length ≤ st.1.length + 2 := by
  unfold stepQ
  split
  · simp
  · simp only
    split <;> simp
theorem fold_snocQ (s : List UInt8) (k : Nat) (h : k < s.length) : (s.take (k + 1)).foldl stepQ ([], false) = stepQ ((s.take k).foldl stepQ ([], false)) (gB s k) := by
  rw [take_snocB s k h, List.foldl_append]; rfl
theorem fold_lenQ (s : List UInt8) : ∀ k, k ≤ s.length → ((s.take k).foldl stepQ ([], false)).1.length ≤ 2 * k := by
  intro k
  induction k with
  | zero => intro _; simp
  | succ k ih =>
    intro h
    rw [fold_snocQ s k (by omega)]
    have := stepQ_len ((s.take k).foldl stepQ ([], false)) (gB s k)
    have := ih (by omega)
    omega
set_option maxRecDepth 100000 in
set_option maxHeartbeats 4000000 in
theorem RSqueezed_any (s : List UInt8) (w : World) (hl : s.length ≤ 100000000) : Calls Tryz.prog 41 #[.string ⟨s.toArray⟩] w fun e w' => e = .returned (.string ⟨(squeezeL s).toArray⟩) ∧ Q w w' := by
  rw [squeeze_eq]
  have HLN := Lib.hid (fold_lenQ s)
  go_enter Tryz.func41, Tryz.ntmps41
  go_wp2_with fail
  go_loopw [3, 4, 5] (fun v g i wr => ∃ (k : Nat) (o : List UInt8) (gb : Bool), k ≤ s.length ∧ g = .bool gb ∧ i = .int .i64 k ∧ Hid ((s.take k).foldl stepQ ([], false) = (o, gb)) ∧ Hid (OwnB w wr v o) ∧ o.length ≤ 200000000 ∧ Hid (Q w wr)) (fun _ _ i _ => s.length - (intOf i).toNat)
  case atStart => exact ⟨0, [], false, by omega, rfl, rfl, Lib.hid rfl, Lib.hid (OwnB.nil _ _), by simp, Lib.hid (Q.refl _)⟩
  case round =>
    obtain ⟨k, o, gb, hk, rfl, rfl, HF, HO, hol, HQ⟩ := hrel
    by_cases hlt : k < s.length
    · have g1 : decide (k < s.length) = true := by simpa using hlt
      have HN := Lib.hid (fold_snocQ s k hlt)
      have hn2 := HLN.out (k + 1) (by omega)
      rw [HN.out, HF.out] at hn2
      obtain ⟨b, hb⟩ : ∃ b, gB s k = b := ⟨_, rfl⟩
      rw [hb] at HN hn2
      have hb8 := b.toNat_lt
      have hbk := blkB_nat b
      by_cases h32 : b.toNat = 32 ∨ b.toNat = 9
      · have HB : Hid (blkB b = true) := Lib.hid (by rw [hbk]; simpa using h32)
        have HN2 : Hid ((s.take (k + 1)).foldl stepQ ([], false) = (o, !o.isEmpty)) := Lib.hid (by rw [HN.out, HF.out]; unfold stepQ; rw [if_pos HB.out])
        obtain ⟨ad, cap, rfl, -⟩ := HO.out.form
        have HE : Hid (decide (0 < o.length) = !o.isEmpty) := Lib.hid (by rcases o with _ | ⟨x, r⟩ <;> simp)
        clear HN HF hbk hn2
        by_cases e32 : b.toNat = 32
        · have q1 : ((b.toNat : Int) == 32) = true := by rw [beq_iff_eq]; omega
          clear h32 e32
          go_wp2_with fail
          go_roundw
          case rel => exact ⟨k + 1, o, !o.isEmpty, by omega, by rw [← HE.out], by go_num, HN2, HO, hol, HQ⟩
          case measure => simp [intOf]; omega
        · have q1 : ((b.toNat : Int) == 32) = false := by rw [beq_eq_false_iff_ne]; omega
          have q2 : ((b.toNat : Int) == 9) = true := by rw [beq_iff_eq]; omega
          clear h32 e32
          go_wp2_with fail
          go_roundw
          case rel => exact ⟨k + 1, o, !o.isEmpty, by omega, by rw [← HE.out], by go_num, HN2, HO, hol, HQ⟩
          case measure => simp [intOf]; omega
      · have HB : Hid (blkB b = false) := Lib.hid (by rw [hbk]; simpa using h32)
        have q1 : ((b.toNat : Int) == 32) = false := by rw [beq_eq_false_iff_ne]; omega
        have q2 : ((b.toNat : Int) == 9) = false := by rw [beq_eq_false_iff_ne]; omega
        rcases gb with _ | _
        · have HN2 : Hid ((s.take (k + 1)).foldl stepQ ([], false) = (o ++ [b], false)) := Lib.hid (by rw [HN.out, HF.out]; unfold stepQ; rw [if_neg (by rw [HB.out]; decide)]; rfl)
          have hol2 : (o ++ [b]).length ≤ 200000000 := by
            have := HLN.out (k + 1) (by omega)
            rw [HN2.out] at this; simp only at this; omega
          clear HN HF hbk hn2 h32
          go_wp2_with (at_builtin; refine wpList_append_b rfl (.tmp 29) (.tmp 33) rfl w _ _ _ rfl HO.out HQ.out [b] 1 rfl rfl (by constructor <;> omega) ?_)
          intro v2 w2 ho2 hq2 _ _
          have HO2 := Lib.hid ho2
          have HQ2 := Lib.hid hq2
          clear ho2 hq2 HO HQ
          go_wp2_with fail
          go_roundw
          case rel => exact ⟨k + 1, o ++ [b], false, by omega, rfl, by go_num, HN2, HO2, hol2, HQ2⟩
          case measure => simp [intOf]; omega
        · have HN2 : Hid ((s.take (k + 1)).foldl stepQ ([], false) = ((o ++ [32]) ++ [b], false)) := Lib.hid (by rw [HN.out, HF.out]; unfold stepQ; rw [if_neg (by rw [HB.out]; decide)]; simp)
          have hol2 : ((o ++ [32]) ++ [b]).length ≤ 200000000 := by
            have := HLN.out (k + 1) (by omega)
            rw [HN2.out] at this; simp only at this; omega
          have hol3 : (o ++ [32]).length ≤ 200000000 := by rw [List.length_append] at hol2; omega
          clear HN HF hbk hn2 h32
          go_wp2_with (at_builtin; refine wpList_append_b rfl (.tmp 26) (.tmp 27) rfl w _ _ _ rfl HO.out HQ.out [32] 1 rfl rfl (by constructor <;> omega) ?_)
          intro v1 w1 ho1 hq1 _ _
          have HO1 := Lib.hid ho1
          have HQ1 := Lib.hid hq1
          clear ho1 hq1 HO HQ
          go_wp2_with (at_builtin; refine wpList_append_b rfl (.tmp 29) (.tmp 33) rfl w _ _ _ rfl HO1.out HQ1.out [b] 1 rfl rfl (by constructor <;> omega) ?_)
          intro v2 w2 ho2 hq2 _ _
          have HO2 := Lib.hid ho2
          have HQ2 := Lib.hid hq2
          clear ho2 hq2 HO1 HQ1
          go_wp2_with fail
          go_roundw
          case rel => exact ⟨k + 1, (o ++ [32]) ++ [b], false, by omega, rfl, by go_num, HN2, Lib.hid (by have := HO2.out; simpa using this), hol2, HQ2⟩
          case measure => simp [intOf]; omega
    · obtain rfl : k = s.length := by omega
      have hd := HF.out
      rw [List.take_length] at hd
      have HR : Hid (squeezeR s = o) := Lib.hid (by unfold squeezeR; rw [hd])
      have hcv := conv_b HO.out
      clear hd HF hlt
      go_wp2_with fail
      go_ret
      rw [HR.out]
      exact ⟨rfl, HQ.out⟩
end Go.Proofs.YtmmoenbmgcplkaaGreatDoor
