/- Texts of this proof, laid into one: UrU, UrV, VaA, VaB, VaC, VaI, VaG. -/
import Derived.Test.YtlalpnnnnmcejaaGreatDoorMx06
/- Pairs copied and turned; the order of a query's pairs, plainly. -/
set_option linter.unusedVariables false
set_option linter.unusedSimpArgs false
namespace Go.Proofs.YtlalpnnnnmcejaaGreatDoor
open Go Go.RowKit
def leP (a b : PairD) : Bool := !(ltOf pcmp) b a
theorem leP_trans (a b c : PairD) (h1 : leP a b = true) (h2 : leP b c = true) : leP a c = true := by
  unfold leP at *
  simp only [Bool.not_eq_true'] at *
  exact swo_pair.ntrans c b a h2 h1
theorem leP_total (a b : PairD) : (leP a b || leP b a) = true := by
  unfold leP
  rcases h : ltOf pcmp b a with _ | _
  · rfl
  · rw [Sort.SWO.asymm swo_pair h]; rfl
theorem leP_anti (a b : PairD) (h1 : leP a b = true) (h2 : leP b a = true) : a = b := by
  unfold leP at *
  simp only [Bool.not_eq_true'] at *
  exact pcmp_total a b h2 h1
theorem sortP_perm {l m : List PairD} (h : l.Perm m) : sortP l = sortP m := by
  have e1 : sortP l = l.mergeSort leP := rfl
  have e2 : sortP m = m.mergeSort leP := rfl
  rw [e1, e2]
  refine List.Perm.eq_of_pairwise (le := fun a b => leP a b = true) (fun a b _ _ h1 h2 => leP_anti a b h1 h2) (List.pairwise_mergeSort leP_trans leP_total l) (List.pairwise_mergeSort leP_trans leP_total m) ?_
  exact (List.mergeSort_perm l leP).trans (h.trans (List.mergeSort_perm m leP).symm)
theorem canonL_perm {l m : List PairD} (h : l.Perm m) : canonL l = canonL m := by
  unfold canonL partsL; rw [sortP_perm (h.map encP)]
theorem cellsU_set (ps : List PairD) : ∀ (k : Nat) (p : PairD), k < ps.length → cellsU (ps.set k p) = (cellsU ps).take (k * 2) ++ pairL p ++ (cellsU ps).drop (k * 2 + 2) := by
  induction ps with
  | nil => intro k p h; simp at h
  | cons a r ih =>
    intro k p h
    have e : cellsU (a :: r) = pairL a ++ cellsU r := by simp [cellsU]
    have hl := pairL_len a
    cases k with
    | zero =>
      have e2 : cellsU ((a :: r).set 0 p) = pairL p ++ cellsU r := by simp [cellsU]
      rw [e2, e, Nat.zero_mul, List.take_zero, List.nil_append, Nat.zero_add, List.drop_append, hl]
      simp [pairL]
    | succ k =>
      have e2 : cellsU ((a :: r).set (k + 1) p) = pairL a ++ cellsU (r.set k p) := by simp [cellsU]
      rw [e2, e, ih k p (by simpa using h), List.take_append, List.drop_append, hl]
      have t1 : (pairL a).take ((k + 1) * 2) = pairL a := List.take_of_length_le (by rw [hl]; omega)
      have t2 : (pairL a).drop ((k + 1) * 2 + 2) = [] := List.drop_of_length_le (by rw [hl]; omega)
      rw [t1, t2, show (k + 1) * 2 - 2 = k * 2 by omega, show (k + 1) * 2 + 2 - 2 = k * 2 + 2 by omega]
      simp
theorem OwnU.setU {w0 w : World} {A : Option Addr} {len cap : Nat} {ps : List PairD} (h : OwnU w0 w (.slice A len cap) ps) (k : Nat) (hk : k < len) (p : PairD) : ∃ g, A = some ⟨g, 0, none⟩ ∧ w0.heap.size ≤ g ∧ w.there g (k * 2) (pairL p).toArray.size ∧
    OwnU w0 (w.setCells g (k * 2) (pairL p)) (.slice A len cap) (ps.set k p) ∧ w.grownBy (w.setCells g (k * 2) (pairL p)) (some g) := by
  rcases h.2 with ⟨hv, h0⟩ | ⟨g, cap', cur, hv, hb, hh, hn, hm, hcs, ht⟩
  · cases hv; omega
  · cases hv
    have hl5 : (pairL p).length = 2 := rfl
    have hfit : k * 2 + 2 ≤ cur.size := by rw [hcs]; omega
    have hset := heap_setCells g 37 (0, 0) (pairL p) (k * 2) w cur hh (by rw [hl5]; exact hfit)
    refine ⟨g, rfl, hb, ?_, ⟨by rw [cellsU_len], .inr ⟨g, cap, _, by rw [List.length_set], hb, hset, by rw [List.length_set]; exact hn, hm, ?_, ?_⟩⟩, setCells_gb g _ _ _⟩
    · intro j hj
      have hj5 : j < 2 := by simpa [hl5] using hj
      refine ⟨?_, frozen_of_row w g _ _ _ hh⟩
      rw [cell_of_row _ _ _ _ _ _ hh, Array.getElem?_eq_getElem (by omega)]; rfl
    · simp [hl5]; omega
    · rw [List.length_set, cellsU_set ps k p hk]
      have e1 : (cellsU ps).take (k * 2) = cur.toList.take (k * 2) := by rw [← ht, List.take_take, Nat.min_eq_left (by omega)]
      have e2 : (cellsU ps).drop (k * 2 + 2) = (cur.toList.drop (k * 2 + 2)).take (ps.length * 2 - (k * 2 + 2)) := by rw [← ht, List.drop_take]
      rw [e1, e2]
      have hl1 : (cur.toList.take (k * 2)).length = k * 2 := by rw [List.length_take]; simp; omega
      have ha : (cur.toList.take (k * 2) ++ pairL p).length = k * 2 + 2 := by rw [List.length_append, hl1, hl5]
      rw [List.take_append, ha, List.take_of_length_le (by rw [ha]; omega), hl5]
/-- append(l, from...). -/
theorem wpList_append_us {ops : Array Oper} {rest : List Oper} {o : Oper} {a : Act} {R : Exit → Act → World → Prop} (hgd : o.guard = none) (s x : Operand)
    (ho : o.op = .call { callee := .builtin .append, args := #[s, x], argTypes := #[30, 30] })
    (w0 W : World) (v : Value) (ps qs : List PairD) (hs : a.eval s = v) (hown : OwnU w0 W v ps) (ad : Addr) (m c : Nat) (hm : qs.length = m) (hx : a.eval x = .slice (some ad) m c) (hc : ∀ j u, (cellsU qs)[j]? = some u → W.cell? (ad.add j) = some u) (hq : w0.heap.size ≤ W.heap.size) (hb : (ps.length + m) * 32 ≤ 140737488355328)
    (h : ∀ v' w', OwnU w0 w' v' (ps ++ qs) → W.grownBy w' v.ownBlock → wpList Tryz.prog ops R rest (a.put o.dst v') w') : wpList Tryz.prog ops R (o :: rest) a W := by
  obtain ⟨i, hi, hz, hsz, hby⟩ := info_parts info_pair
  refine wpList_append_own_at (w := W) hgd s x 30 ho w0.heap.size 37 i _ 2 32 Tryz.underlying30 hi hz hsz hby rfl (by decide) v ps.length (cellsU ps) hs hown ad m c (cellsU qs) hx (by rw [cellsU_len, hm]) hc ?_ (by unfold maxLen; omega) hb hq ?_
  · intro u hu
    unfold cellsU at hu
    obtain ⟨p, _, hp⟩ := List.mem_flatMap.1 hu
    exact one_cells p u hp
  · intro v' w' h2 hg _ hb2
    refine h v' w' ?_ hg
    unfold OwnU; rw [cellsU_app, List.length_append, hm]; exact h2
theorem swap_perm (l : List PairD) (i j : Nat) (hi : i < l.length) (hj : j < l.length) : ((l.set i (gU l j)).set j (gU l i)).Perm l := by
  have e1 : gU l i = l[i] := by simp [gU, List.getD, hi]
  have e2 : gU l j = l[j] := by simp [gU, List.getD, hj]
  rw [e1, e2]
  exact List.set_set_perm hi hj
end Go.Proofs.YtlalpnnnnmcejaaGreatDoor
/- UriOrder: the law. -/
set_option linter.unusedVariables false
set_option linter.unusedSimpArgs false
namespace Go.Proofs.YtlalpnnnnmcejaaGreatDoor
open Go Go.RowKit
theorem pairs_cells {w : World} {g off n : Nat} {ps : List PairD} (h : PairsAt w (some ⟨g, off, none⟩) n ps) (k m : Nat) (hk : k + m ≤ n) : ∀ j u, (cellsU ((ps.drop k).take m))[j]? = some u → w.cell? ((⟨g, off + k * 2, none⟩ : Addr).add j) = some u := by
  intro j u hu
  have hn := h.1
  have hlen : ((ps.drop k).take m).length = m := by simp; omega
  have hj : j < m * 2 := by
    have := (List.getElem?_eq_some_iff.1 hu).1
    rwa [cellsU_len, hlen] at this
  obtain ⟨g', off', e, _, hc⟩ := h.2 (by omega)
  cases e
  have hd : j / 2 < ((ps.drop k).take m).length := by rw [hlen]; omega
  have e1 := cellsU_at ((ps.drop k).take m) (j / 2) hd (j % 2) (Nat.mod_lt _ (by omega))
  rw [show j / 2 * 2 + j % 2 = j by omega, hu] at e1
  have e2 : ((ps.drop k).take m)[j / 2] = ps[k + j / 2]'(by omega) := by simp
  rw [e2] at e1
  have := hc (k + j / 2) (by omega) (j % 2) u e1.symm
  rw [add_off]
  rw [show off + k * 2 + j = off + (k + j / 2) * 2 + j % 2 by omega]
  exact this
theorem OwnU.cap {w0 w : World} {A : Option Addr} {n cap : Nat} {l : List PairD} (h : OwnU w0 w (.slice A n cap) l) (hn : n ≠ 0) : cap ≤ 9223372036854775807 := by
  rcases h.2 with ⟨h1, _⟩ | ⟨g, c2, cur, h1, _, _, _, hm, _⟩
  · injection h1 with _ h2 _; omega
  · injection h1 with _ _ h3; subst h3; exact hm
theorem OwnU.el {w0 w : World} {A : Option Addr} {n cap : Nat} {l : List PairD} (h : OwnU w0 w (.slice A n cap) l) {j : Nat} (hj : j < l.length) : ∃ g, A = some ⟨g, 0, none⟩ ∧ w.cell? ⟨g, j * 2, none⟩ = some (.string ⟨(gU l j).1.toArray⟩) ∧ w.cell? ⟨g, j * 2 + 1, none⟩ = some (.string ⟨(gU l j).2.toArray⟩) ∧ w0.heap.size ≤ g ∧ g < w.heap.size := by
  obtain ⟨A', c', e, _, hc⟩ := h.at
  injection e with e1 _ _
  subst e1
  obtain ⟨g, hA, e0, e1⟩ := hc j hj
  have hb := h.block (k := g) (by rw [hA]; rfl)
  have hg : l[j] = gU l j := by simp [gU, List.getD, hj]
  rw [hg] at e0 e1
  exact ⟨g, hA, e0, e1, hb.1, hb.2.1⟩
end Go.Proofs.YtlalpnnnnmcejaaGreatDoor
/- Plain: the document's Decode, Target, Split, Bucket. -/
set_option linter.unusedVariables false
set_option linter.unusedSimpArgs false
namespace Go.Proofs.YtlalpnnnnmcejaaGreatDoor
open Go Go.RowKit
/-- Where the first c stands. -/
def AtC (c : UInt8) (l : List UInt8) (q : Nat) : Prop := q ≤ l.length ∧ (∀ j, j < q → gB l j ≠ c) ∧ (q < l.length → gB l q = c)
theorem AtC.tail {c x : UInt8} {l : List UInt8} {q : Nat} (h : AtC c (x :: l) (q + 1)) : AtC c l q := by
  obtain ⟨h1, h2, h3⟩ := h
  refine ⟨by simp at h1; omega, fun j hj => ?_, fun hq => ?_⟩
  · have := h2 (j + 1) (by omega); simpa [gB] using this
  · have := h3 (by simp; omega); simpa [gB] using this
theorem cutB_at {c : UInt8} (l : List UInt8) : ∀ {q : Nat}, AtC c l q → cutB c l = (l.take q, l.drop (q + 1), decide (q < l.length)) := by
  induction l with
  | nil => intro q h; have := h.1; simp at this; subst this; simp [cutB]
  | cons x r ih =>
    intro q h
    rcases q with _ | q
    · have := h.2.2 (by simp)
      have hx : x = c := by simpa [gB] using this
      simp [cutB, hx]
    · have hx : x ≠ c := by have := h.2.1 0 (by omega); simpa [gB] using this
      have := ih h.tail
      unfold cutB
      rw [if_neg hx, this]
      simp
theorem splitC_at {c : UInt8} (l : List UInt8) : ∀ {q : Nat}, AtC c l q → splitC c l = l.take q :: (if q < l.length then splitC c (l.drop (q + 1)) else []) := by
  induction l with
  | nil => intro q h; have := h.1; simp at this; subst this; simp [splitC]
  | cons x r ih =>
    intro q h
    rcases q with _ | q
    · have := h.2.2 (by simp)
      have hx : x = c := by simpa [gB] using this
      simp [splitC, hx]
    · have hx : x ≠ c := by have := h.2.1 0 (by omega); simpa [gB] using this
      have := ih h.tail
      rw [splitC, if_neg hx, this]
      simp only [List.take_succ_cons, List.drop_succ_cons, List.length_cons, Nat.add_lt_add_iff_right]
/-- What is left of the pieces at a place. -/
def remT (s : List UInt8) (at_ : Nat) (out : List PairD) : Option Nat × List PairD := if at_ ≤ s.length then rPieces (splitC 38 (s.drop at_)) at_ out else (none, out)
theorem gB_drop (l : List UInt8) (a j : Nat) : gB (l.drop a) j = gB l (a + j) := by simp [gB]
theorem atC_sub {c : UInt8} {s : List UInt8} {a e : Nat} (ha : a ≤ e) (he : e ≤ s.length) (h1 : ∀ j, a ≤ j → j < e → gB s j ≠ c) (h2 : e < s.length → gB s e = c) : AtC c (s.drop a) (e - a) := by
  refine ⟨by simp; omega, fun j hj => ?_, fun hq => ?_⟩
  · rw [gB_drop]; exact h1 _ (by omega) (by omega)
  · rw [gB_drop, show a + (e - a) = e by omega]; exact h2 (by simp at hq; omega)
theorem rem_split {s : List UInt8} {a e : Nat} (ha : a ≤ e) (he : e ≤ s.length) (h1 : ∀ j, a ≤ j → j < e → gB s j ≠ 38) (h2 : e < s.length → gB s e = 38) : splitC 38 (s.drop a) = sub s a e :: (if e < s.length then splitC 38 (s.drop (e + 1)) else []) := by
  rw [splitC_at _ (atC_sub ha he h1 h2), List.drop_drop]
  rw [show a + (e - a + 1) = e + 1 by omega]
  have e1 : (s.drop a).take (e - a) = sub s a e := by unfold sub; rw [List.drop_take]
  rw [e1]
  have e2 : (e - a < (s.drop a).length) = (e < s.length) := by simp; omega
  simp only [e2]
theorem rem_rest {s : List UInt8} {e : Nat} (he : e ≤ s.length) (out : List PairD) : rPieces (if e < s.length then splitC 38 (s.drop (e + 1)) else []) (e + 1) out = remT s (e + 1) out := by
  unfold remT
  by_cases h : e < s.length
  · rw [if_pos h, if_pos (by omega)]
  · rw [if_neg h, if_neg (by omega)]; rfl
theorem rem_empty {s : List UInt8} {a : Nat} {out : List PairD} (he : a ≤ s.length) (h2 : a < s.length → gB s a = 38) : remT s a out = remT s (a + 1) out := by
  have h := rem_split (Nat.le_refl a) he (fun j h1 h2 => by omega) h2
  have h0 : sub s a a = [] := by unfold sub; simp
  rw [h0] at h
  conv => lhs; unfold remT
  rw [if_pos he, h, rPieces, if_pos rfl, rem_rest he]
theorem sub_cut {s : List UInt8} {a k e : Nat} (ha : a ≤ k) (hk : k ≤ e) (he : e ≤ s.length) (h1 : ∀ j, a ≤ j → j < k → gB s j ≠ 61) (h2 : k < e → gB s k = 61) : cutB 61 (sub s a e) = (sub s a k, sub s (k + 1) e, decide (k < e)) := by
  have hs : sub s a e = (s.take e).drop a := rfl
  have ht : ∀ j, j < e → gB (s.take e) j = gB s j := fun j hj => by simp [gB, List.getD, List.getElem?_take, hj]
  have hA : AtC 61 ((s.take e).drop a) (k - a) := atC_sub ha (by simp; omega) (fun j h3 h4 => by rw [ht j (by omega)]; exact h1 j h3 h4) (fun hq => by simp at hq; rw [ht k (by omega)]; exact h2 (by omega))
  rw [hs, cutB_at _ hA]
  have e1 : ((s.take e).drop a).take (k - a) = sub s a k := by unfold sub; rw [← List.drop_take, List.take_take]; congr 2; omega
  have e2 : ((s.take e).drop a).drop (k - a + 1) = sub s (k + 1) e := by unfold sub; rw [List.drop_drop]; congr 1; omega
  have e3 : (k - a < ((s.take e).drop a).length) = (k < e) := by simp; omega
  simp only [e1, e2, e3]
theorem sub_ne {s : List UInt8} {a e : Nat} (h : a < e) (he : e ≤ s.length) : sub s a e ≠ [] := by
  intro h0
  have := length_sub s a e
  rw [h0] at this; simp at this; omega
theorem rem_piece {s : List UInt8} {a k e : Nat} {out : List PairD} (hae : a < e) (ha : a ≤ k) (hk : k ≤ e) (he : e ≤ s.length) (h1 : ∀ j, a ≤ j → j < e → gB s j ≠ 38) (h2 : e < s.length → gB s e = 38)
    (h3 : ∀ j, a ≤ j → j < k → gB s j ≠ 61) (h4 : k < e → gB s k = 61) :
    remT s a out = match (decR (sub s a k)).2 with
      | some b => (some (a + b), [])
      | none => if k < e then (match (decR (sub s (k + 1) e)).2 with
          | some b => (some (k + 1 + b), [])
          | none => remT s (e + 1) (out ++ [((decR (sub s a k)).1, (decR (sub s (k + 1) e)).1)]))
        else remT s (e + 1) (out ++ [((decR (sub s a k)).1, [])]) := by
  have hs := rem_split (Nat.le_of_lt hae) he h1 h2
  have hl : a + ((sub s a e).length + 1) = e + 1 := by rw [length_sub]; omega
  have hl2 : a + (sub s a k).length + 1 = k + 1 := by rw [length_sub]; omega
  conv => lhs; unfold remT
  rw [if_pos (by omega), hs, rPieces, if_neg (sub_ne hae he), sub_cut ha hk he h3 h4]
  simp only [hl, hl2, rem_rest he, decide_eq_true_eq]
  rcases (decR (sub s a k)).2 with _ | b
  · simp only
    by_cases hke : k < e
    · rw [if_pos hke, if_pos hke]
      rcases (decR (sub s (k + 1) e)).2 with _ | b <;> rfl
    · rw [if_neg hke, if_neg hke]
  · rfl
theorem rtgt_path {s : List UInt8} {q k : Nat} (h0 : s.head? = some 47) (hb : s.findIdx? badC = none) (hq : AtC 63 s q) (hk : (decR (s.take q)).2 = some k) : tgtL s = ([], [], 52, (k : Int)) := by
  unfold tgtL
  rw [if_pos h0, hb]
  have hc := cutB_at s hq
  have e : (runT s).bad = (k : Int) := by
    unfold runT startT
    rw [hc]
    have : badT (s.take q) 0 (-1) = (k : Int) := by unfold badT; rw [hk]; simp
    simp only [this]
    rw [fold_keep _ _ (by show (0 : Int) ≤ (k : Int); omega)]
  simp only [e]
  rw [if_pos (by omega)]
theorem rtgt_rest {s : List UInt8} {q : Nat} (h0 : s.head? = some 47) (hb : s.findIdx? badC = none) (hq : AtC 63 s q) (hk : (decR (s.take q)).2 = none) :
    tgtL s = match remT s (q + 1) [] with | (some b, _) => ([], [], 52, (b : Int)) | (none, ps) => ((decR (s.take q)).1, ps, 0, 0) := by
  unfold tgtL
  rw [if_pos h0, hb]
  have hc := cutB_at s hq
  have hd : (decOut (s.take q)).1 = (decR (s.take q)).1 := by unfold decOut; rw [hk]
  have hbt : badT (s.take q) 0 (-1) = -1 := by unfold badT; rw [hk]
  have hl : (((s.take q).length : Int) + 1) = ((q + 1 : Nat) : Int) := by have := hq.1; simp; omega
  have hr : runT s = (splitC 38 (s.drop (q + 1))).foldl stepT ⟨[], ((q + 1 : Nat) : Int), -1⟩ := by
    unfold runT startT; rw [hc]; simp only [hbt, hl]
  have hrem : remT s (q + 1) [] = rPieces (splitC 38 (s.drop (q + 1))) (q + 1) [] := by
    unfold remT
    by_cases h : q + 1 ≤ s.length
    · rw [if_pos h]
    · rw [if_neg h, List.drop_of_length_le (by omega)]; simp [splitC, rPieces]
  have hp := pieces_fold (splitC 38 (s.drop (q + 1))) (q + 1) []
  rw [← hr, ← hrem] at hp
  rw [hc]
  simp only [hd]
  rcases hx : remT s (q + 1) [] with ⟨_ | b, ps⟩
  · rw [hx] at hp; simp only at hp; obtain ⟨hp1, hp2⟩ := hp; simp only [hp1, hp2]; rw [if_neg (by omega)]
  · rw [hx] at hp; simp only at hp; simp only [hp]; rw [if_pos (by omega)]
end Go.Proofs.YtlalpnnnnmcejaaGreatDoor
/- Plain: the document's Canon (insertion) and Bucket. -/
set_option linter.unusedVariables false
set_option linter.unusedSimpArgs false
namespace Go.Proofs.YtlalpnnnnmcejaaGreatDoor
open Go Go.RowKit
def UpP (l : List PairD) : Prop := l.Pairwise fun a b => leP a b = true
theorem gU_get (l : List PairD) (j : Nat) (h : j < l.length) : gU l j = l[j] := by simp [gU, List.getD, h]
theorem ins_up {ys : List PairD} {k : Nat} {x : PairD} (h : UpP ys) (hk : k ≤ ys.length) (h1 : ∀ j, k ≤ j → j < ys.length → leP x (gU ys j) = true) (h2 : k = 0 ∨ leP (gU ys (k - 1)) x = true) : UpP (ys.take k ++ x :: ys.drop k) := by
  unfold UpP at *
  have h' : (ys.take k ++ ys.drop k).Pairwise fun a b => leP a b = true := by rw [List.take_append_drop]; exact h
  rw [List.pairwise_append] at h'
  obtain ⟨p1, p2, p3⟩ := h'
  have hx : ∀ b ∈ ys.drop k, leP x b = true := fun b hb => by
    obtain ⟨j, hj, rfl⟩ := List.mem_iff_getElem.1 hb
    have hj2 : k + j < ys.length := by simp at hj; omega
    have := h1 (k + j) (by omega) hj2
    rw [gU_get _ _ hj2] at this
    simpa using this
  have hy : ∀ a ∈ ys.take k, leP a x = true := fun a ha => by
    obtain ⟨j, hj, rfl⟩ := List.mem_iff_getElem.1 ha
    simp only [List.length_take] at hj
    rcases h2 with h0 | h2
    · omega
    · rw [gU_get _ _ (by omega)] at h2
      rw [List.getElem_take]
      by_cases e : j = k - 1
      · subst e; exact h2
      · exact leP_trans _ _ _ (List.pairwise_iff_getElem.1 h j (k - 1) (by omega) (by omega) (by omega)) h2
  rw [List.pairwise_append]
  refine ⟨p1, List.pairwise_cons.2 ⟨hx, p2⟩, fun a ha b hb => ?_⟩
  rcases List.mem_cons.1 hb with rfl | hb
  · exact hy a ha
  · exact p3 a ha b hb
theorem ins_perm (ys : List PairD) (k : Nat) (x : PairD) : (ys.take k ++ x :: ys.drop k).Perm (ys ++ [x]) := by
  refine List.perm_middle.trans ?_
  rw [List.take_append_drop]
  exact (List.perm_append_comm (l₁ := [x]) (l₂ := ys))
theorem up_sortP {l m : List PairD} (h : UpP l) (hp : l.Perm m) : l = sortP m := by
  have e2 : sortP m = m.mergeSort leP := rfl
  rw [e2]
  exact (hp.trans (List.mergeSort_perm m leP).symm).eq_of_pairwise (fun a b _ _ => leP_anti a b) h (List.pairwise_mergeSort leP_trans leP_total m)
theorem ltP_iff (a b : PairD) : ltOf pcmp a b = true ↔ a.1 < b.1 ∨ (a.1 = b.1 ∧ a.2 < b.2) := by
  unfold ltOf; rw [decide_eq_true_eq, pcmp_lt]
/-- One step to the front. -/
theorem ins_step (ys : List PairD) (k : Nat) (x : PairD) (hk : k + 1 ≤ ys.length) :
    ((ys.take (k + 1) ++ x :: ys.drop (k + 1)).set (k + 1) (gU ys k)).set k x = ys.take k ++ x :: ys.drop k := by
  have e1 : ys.take (k + 1) = ys.take k ++ [gU ys k] := take_snocP ys k (by omega)
  have e2 : ys.drop k = gU ys k :: ys.drop (k + 1) := by rw [List.drop_eq_getElem_cons (by omega), gU_get _ _ (by omega)]
  have hl : (ys.take k).length = k := by simp; omega
  rw [e1, e2, List.append_assoc]
  simp only [List.singleton_append]
  rw [List.set_append_right _ _ (by omega), hl, show k + 1 - k = 1 by omega]
  rw [List.set_append_right _ _ (by omega), hl, show k - k = 0 by omega]
  simp
/-- Bucket, byte by byte. -/
def prv (pv : UInt8) (l : List UInt8) (i : Nat) : UInt8 := if i = 0 then pv else gB l (i - 1)
def okAt (s : List UInt8) (i : Nat) : Prop := okCond (prv 46 s i) (gB s i) = true ∧ (i + 1 = s.length → gB s i ≠ 45 ∧ gB s i ≠ 46)
theorem chk_at (l : List UInt8) : ∀ pv, chk pv l = true ↔ (∀ i, i < l.length → okCond (prv pv l i) (gB l i) = true) ∧ ((prv pv l l.length) ≠ 45 ∧ (prv pv l l.length) ≠ 46) := by
  induction l with
  | nil => intro pv; simp [chk, prv]
  | cons b r ih =>
    intro pv
    have hp : ∀ i, prv pv (b :: r) (i + 1) = prv b r i := fun i => by
      unfold prv
      rw [if_neg (by omega)]
      rcases i with _ | i
      · simp [gB]
      · rw [if_neg (by omega)]; simp [gB]
    unfold chk
    rw [Bool.and_eq_true, ih b]
    have hl : (b :: r).length = r.length + 1 := rfl
    rw [hl, hp]
    constructor
    · rintro ⟨h1, h2, h3⟩
      refine ⟨fun i hi => ?_, h3⟩
      rcases i with _ | i
      · simpa [prv, gB] using h1
      · rw [hp]; have := h2 i (by omega); simpa [gB] using this
    · rintro ⟨h1, h3⟩
      refine ⟨by simpa [prv, gB] using h1 0 (by omega), fun i hi => ?_, h3⟩
      have := h1 (i + 1) (by omega); rw [hp] at this; simpa [gB] using this
theorem chk_ok (s : List UInt8) (h0 : 0 < s.length) : chk 46 s = true ↔ ∀ i, i < s.length → okAt s i := by
  rw [chk_at]
  have hl : prv 46 s s.length = gB s (s.length - 1) := by unfold prv; rw [if_neg (by omega)]
  rw [hl]
  constructor
  · rintro ⟨h1, h2⟩ i hi
    refine ⟨h1 i hi, fun e => ?_⟩
    have : i = s.length - 1 := by omega
    rw [this]; exact h2
  · intro h
    exact ⟨fun i hi => (h i hi).1, (h (s.length - 1) (by omega)).2 (by omega)⟩
def numC (b : UInt8) : Bool := tenB b || b == 46
theorem num_labels (s : List UInt8) : (splitC 46 s).all numL = s.all numC := by
  induction s with
  | nil => simp [splitC, numL]
  | cons b r ih =>
    unfold splitC
    by_cases hb : b = 46
    · rw [if_pos hb, List.all_cons, List.all_cons, ih]; simp [numL, numC, hb]
    · rw [if_neg hb]
      rcases hs : splitC 46 r with _ | ⟨h, t⟩
      · exact absurd hs (splitC_ne 46 r)
      · rw [hs] at ih
        rw [List.all_cons, List.all_cons, ← ih, List.all_cons]
        have hb2 : (b == 46) = false := by simpa using hb
        simp [numL, numC, hb2, Bool.and_assoc]
theorem bucket_ref (s : List UInt8) : bucketL s = (decide (3 ≤ s.length) && decide (s.length ≤ 63) && chk 46 s && (!(s.all numC) || decide (s.count 46 ≠ 3))) := by
  unfold bucketL
  rw [(labels_chk s).1]
  have h1 : decide ((splitC 46 s).countP numL < (splitC 46 s).length) = !(s.all numC) := by
    rw [← num_labels, Bool.eq_iff_iff, decide_eq_true_eq, Bool.not_eq_true']
    rw [← Bool.not_eq_true, List.all_eq_true, ← List.countP_eq_length]
    have := List.countP_le_length (p := numL) (l := splitC 46 s)
    omega
  have h2 : decide ((splitC 46 s).length ≠ 4) = decide (s.count 46 ≠ 3) := by
    rw [splitC_count]
    have : (s.count 46 + 1 ≠ 4) = (s.count 46 ≠ 3) := by apply propext; omega
    simp only [this]
  rw [h1, h2]
def rsplitU (l : List UInt8) : List UInt8 × List UInt8 := splitU l
end Go.Proofs.YtlalpnnnnmcejaaGreatDoor
/- Plain: what is told of a path and a query is read again. -/
set_option linter.unusedVariables false
set_option linter.unusedSimpArgs false
namespace Go.Proofs.YtlalpnnnnmcejaaGreatDoor
open Go Go.RowKit
def cleanB (b : UInt8) : Bool := !badC b && !(b == 63) && !(b == 38) && !(b == 61)
theorem enc_clean (sl : Bool) (l : List UInt8) : ∀ b ∈ encL sl l, cleanB b = true := by
  have h : ∀ (sl : Bool) (n : Fin 256), (encB sl n.val.toUInt8).all cleanB = true := by decide +kernel
  intro b hb
  unfold encL at hb
  obtain ⟨x, _, hx⟩ := List.mem_flatMap.1 hb
  have := h sl ⟨x.toNat, x.toNat_lt⟩
  simp only [UInt8.ofNat_toNat, Nat.toUInt8_eq] at this
  exact List.all_eq_true.1 this b hx
theorem cleanB_facts {b : UInt8} (h : cleanB b = true) : badC b = false ∧ b ≠ 63 ∧ b ≠ 38 ∧ b ≠ 61 := by
  unfold cleanB at h; simp only [Bool.and_eq_true, Bool.not_eq_true', beq_eq_false_iff_ne] at h; exact ⟨h.1.1.1, h.1.1.2, h.1.2, h.2⟩
theorem cutB_app {c : UInt8} {a : List UInt8} (r : List UInt8) (h : ∀ b ∈ a, b ≠ c) : cutB c (a ++ c :: r) = (a, r, true) := by
  induction a with
  | nil => simp [cutB]
  | cons x t ih =>
    rw [List.cons_append]; unfold cutB
    rw [if_neg (h x List.mem_cons_self), ih (fun b hb => h b (List.mem_cons_of_mem _ hb))]
theorem join_nil (c : List UInt8) : Lib.join [] c = [] := by simp [Lib.join, List.intercalate]
theorem join_one (a : List UInt8) (c : List UInt8) : Lib.join [a] c = a := by simp [Lib.join, List.intercalate]
theorem join_cons (a b : List UInt8) (r : List (List UInt8)) (c : List UInt8) : Lib.join (a :: b :: r) c = a ++ c ++ Lib.join (b :: r) c := by unfold Lib.join; rw [List.intercalate_cons_cons]
theorem splitC_app {c : UInt8} {a : List UInt8} (r : List UInt8) (h : ∀ b ∈ a, b ≠ c) : splitC c (a ++ c :: r) = a :: splitC c r := by
  induction a with
  | nil => simp [splitC]
  | cons x t ih =>
    rw [List.cons_append, splitC, if_neg (h x List.mem_cons_self), ih (fun b hb => h b (List.mem_cons_of_mem _ hb))]
theorem splitC_self {c : UInt8} {a : List UInt8} (h : ∀ b ∈ a, b ≠ c) : splitC c a = [a] := by
  induction a with
  | nil => simp [splitC]
  | cons x t ih =>
    rw [splitC, if_neg (h x List.mem_cons_self), ih (fun b hb => h b (List.mem_cons_of_mem _ hb))]
theorem splitC_join (c : UInt8) : ∀ xs : List (List UInt8), xs ≠ [] → (∀ x ∈ xs, ∀ b ∈ x, b ≠ c) → splitC c (Lib.join xs [c]) = xs := by
  intro xs
  induction xs with
  | nil => intro h; exact absurd rfl h
  | cons a r ih =>
    intro _ h
    rcases r with _ | ⟨b, r⟩
    · rw [join_one, splitC_self (h a List.mem_cons_self)]
    · rw [join_cons, List.append_assoc, List.singleton_append, splitC_app _ (h a List.mem_cons_self), ih (by simp) (fun x hx => h x (List.mem_cons_of_mem _ hx))]
theorem join_mem (c : UInt8) : ∀ xs : List (List UInt8), ∀ b ∈ Lib.join xs [c], b = c ∨ ∃ x ∈ xs, b ∈ x := by
  intro xs
  induction xs with
  | nil => intro b hb; rw [join_nil] at hb; cases hb
  | cons a r ih =>
    intro b hb
    rcases r with _ | ⟨y, r⟩
    · rw [join_one] at hb; exact .inr ⟨a, List.mem_cons_self, hb⟩
    · rw [join_cons, List.append_assoc, List.singleton_append] at hb
      rcases List.mem_append.1 hb with h | h
      · exact .inr ⟨a, List.mem_cons_self, h⟩
      · rcases List.mem_cons.1 h with h | h
        · exact .inl h
        · rcases ih b h with h | ⟨x, hx, h⟩
          · exact .inl h
          · exact .inr ⟨x, List.mem_cons_of_mem _ hx, h⟩
def decP (p : PairD) : PairD := ((decR p.1).1, (decR p.2).1)
theorem dec_encP (p : PairD) : decP (encP p) = p := by unfold decP encP; simp only [dec_enc']
theorem sum_len_join (c : UInt8) : ∀ xs : List (List UInt8), (Lib.join xs [c]).length ≤ sumU xs := by
  intro xs
  induction xs with
  | nil => rw [join_nil]; simp
  | cons a r ih =>
    rcases r with _ | ⟨b, r⟩
    · rw [join_one]; simp [sumU]
    · rw [join_cons]; simp only [sumU, List.map_cons, List.sum_cons, List.length_append, List.length_cons, List.length_nil] at *; omega
theorem rPieces_enc (qs : List PairD) : ∀ (a : Nat) (acc : List PairD), rPieces ((qs.map encP).map joinE) a acc = (none, acc ++ qs) := by
  induction qs with
  | nil => intro a acc; simp [rPieces]
  | cons p r ih =>
    intro a acc
    rw [List.map_cons, List.map_cons, rPieces]
    have hne : joinE (encP p) ≠ [] := by unfold joinE; simp
    have hc : cutB 61 (joinE (encP p)) = (encL true p.1, encL true p.2, true) := cutB_app _ (fun b hb => (cleanB_facts (enc_clean true p.1 b hb)).2.2.2)
    rw [if_neg hne, hc]
    simp only [dec_enc', if_true]
    rw [ih]; simp
theorem parts_dec (l : List PairD) : ∃ qs : List PairD, qs.Perm l ∧ sortP (l.map encP) = qs.map encP := by
  have hp : (sortP (l.map encP)).Perm (l.map encP) := List.mergeSort_perm _ _
  refine ⟨(sortP (l.map encP)).map decP, ?_, ?_⟩
  · have := hp.map decP
    rw [List.map_map] at this
    have e : decP ∘ encP = id := by funext p; exact dec_encP p
    rw [e, List.map_id] at this
    exact this
  · rw [List.map_map]
    have : ∀ p ∈ sortP (l.map encP), (encP ∘ decP) p = p := by
      intro p hpm
      obtain ⟨q, _, rfl⟩ := List.mem_map.1 (hp.mem_iff.1 hpm)
      show encP (decP (encP q)) = encP q
      rw [dec_encP]
    conv => lhs; rw [← List.map_id (sortP (l.map encP))]
    exact List.map_congr_left fun p hp => (this p hp).symm
theorem find_clean {l : List UInt8} (h : ∀ b ∈ l, badC b = false) : l.findIdx? badC = none := by
  rw [List.findIdx?_eq_none_iff]; intro x hx; rw [h x hx]
theorem canon_bytes (l : List PairD) : ∀ b ∈ canonL l, badC b = false := by
  intro b hb
  unfold canonL at hb
  rcases join_mem 38 _ b hb with rfl | ⟨x, hx, hbx⟩
  · decide
  · unfold partsL at hx
    obtain ⟨p, hp, rfl⟩ := List.mem_map.1 hx
    obtain ⟨q, _, rfl⟩ := List.mem_map.1 ((List.mergeSort_perm _ _).mem_iff.1 hp)
    unfold joinE encP at hbx
    simp only [List.mem_append, List.mem_cons] at hbx
    rcases hbx with h | rfl | h
    · exact (cleanB_facts (enc_clean _ _ b h)).1
    · decide
    · exact (cleanB_facts (enc_clean _ _ b h)).1
theorem enc_slash (s : List UInt8) : encL false (47 :: s) = 47 :: encL false s := by
  have h : encB false 47 = [47] := by decide
  unfold encL; rw [List.flatMap_cons, h]; rfl
theorem tgt_back (s : List UInt8) (l : List PairD) : ∃ qs : List PairD, qs.Perm l ∧ tgtL (encL false (47 :: s) ++ 63 :: canonL l) = (47 :: s, qs, 0, 0) := by
  obtain ⟨qs, hqs, hsort⟩ := parts_dec l
  refine ⟨qs, hqs, ?_⟩
  have hcut : cutB 63 (encL false (47 :: s) ++ 63 :: canonL l) = (encL false (47 :: s), canonL l, true) := cutB_app _ (fun b hb => (cleanB_facts (enc_clean _ _ b hb)).2.1)
  have hh : (encL false (47 :: s) ++ 63 :: canonL l).head? = some 47 := by rw [enc_slash]; rfl
  have hb : (encL false (47 :: s) ++ 63 :: canonL l).findIdx? badC = none := find_clean (fun b hb => by
    simp only [List.mem_append, List.mem_cons] at hb
    rcases hb with h | rfl | h
    · exact (cleanB_facts (enc_clean _ _ b h)).1
    · decide
    · exact canon_bytes l b h)
  have hd := dec_enc' false (47 :: s)
  unfold tgtL
  rw [if_pos hh, hb]
  have hbt : badT (encL false (47 :: s)) 0 (-1) = -1 := by unfold badT; rw [hd]
  have hdo : (decOut (encL false (47 :: s))).1 = 47 :: s := by unfold decOut; rw [hd]
  have hr : (runT (encL false (47 :: s) ++ 63 :: canonL l)).bad = -1 ∧ (runT (encL false (47 :: s) ++ 63 :: canonL l)).ps = qs := by
    unfold runT startT
    rw [hcut]
    simp only [hbt]
    have hp := pieces_fold (splitC 38 (canonL l)) ((encL false (47 :: s)).length + 1) []
    have he : (rPieces (splitC 38 (canonL l)) ((encL false (47 :: s)).length + 1) []) = (none, qs) := by
      by_cases hz : qs = []
      · have hc : canonL l = [] := by unfold canonL partsL; rw [hsort, hz]; exact join_nil _
        rw [hc, hz]; simp [splitC, rPieces]
      · have hc : splitC 38 (canonL l) = (qs.map encP).map joinE := by
          unfold canonL partsL
          rw [hsort]
          refine splitC_join 38 _ (by simpa using hz) ?_
          intro x hx b hbx
          obtain ⟨p, hp, rfl⟩ := List.mem_map.1 hx
          obtain ⟨q, _, rfl⟩ := List.mem_map.1 hp
          unfold joinE encP at hbx
          simp only [List.mem_append, List.mem_cons] at hbx
          rcases hbx with h | rfl | h
          · exact (cleanB_facts (enc_clean _ _ b h)).2.2.1
          · decide
          · exact (cleanB_facts (enc_clean _ _ b h)).2.2.1
        rw [hc, rPieces_enc]; rfl
    rw [he] at hp
    simp only at hp
    have hcast : (((encL false (47 :: s)).length + 1 : Nat) : Int) = ((encL false (47 :: s)).length : Int) + 1 := by omega
    rw [hcast] at hp
    exact hp
  rw [hcut]
  simp only [hr.1, hr.2, hdo]
  rw [if_neg (by omega)]
/-- How much a query weighs. -/
def heavy (ps : List PairD) : Nat := (ps.map fun p => p.1.length + p.2.length + 3).sum
theorem canon_heavy (l : List PairD) : (canonL l).length ≤ 3 * heavy l := by
  unfold canonL
  refine Nat.le_trans (sum_len_join 38 _) ?_
  unfold partsL sumU
  have hp : (sortP (l.map encP)).Perm (l.map encP) := List.mergeSort_perm _ _
  have h1 : (((sortP (l.map encP)).map joinE).map fun l => l.length + 1).sum = (((l.map encP).map joinE).map fun l => l.length + 1).sum := ((hp.map joinE).map _).sum_nat
  rw [h1]
  unfold heavy
  clear h1 hp
  induction l with
  | nil => simp
  | cons p r ih =>
    have a := encL_le true p.1
    have b := encL_le true p.2
    simp only [List.map_cons, List.sum_cons, joinE, encP, List.length_append, List.length_cons] at *
    omega
theorem heavy_perm {l m : List PairD} (h : l.Perm m) : heavy l = heavy m := (h.map _).sum_nat
theorem heavy_mem {l : List PairD} {p : PairD} (h : p ∈ l) : p.1.length + p.2.length + 3 ≤ heavy l := by
  unfold heavy
  induction l with
  | nil => cases h
  | cons a r ih =>
    simp only [List.map_cons, List.sum_cons]
    rcases List.mem_cons.1 h with rfl | h
    · omega
    · have := ih h; omega
theorem heavy_len (l : List PairD) : 3 * l.length ≤ heavy l := by
  unfold heavy
  induction l with
  | nil => simp
  | cons a r ih => simp only [List.map_cons, List.sum_cons, List.length_cons]; omega
def joinU (b k : List UInt8) : List UInt8 := if k = [] then 47 :: b else 47 :: (b ++ 47 :: k)
theorem split_joinU {b : List UInt8} (h : bucketL b = true) (k : List UInt8) : splitU (joinU b k) = (b, k) := by
  have hf := (bucket_facts h).2.2.2.1
  have hn : ∀ x ∈ b, x ≠ 47 := by
    intro x hx e
    have : splitU (47 :: b) = ((cutB 47 b).1, (cutB 47 b).2.1) := by simp [splitU]
    rw [hf] at this
    have h1 : (cutB 47 b).1 = b := by injection this with h1 _; exact h1.symm
    have hmem : ∀ (l : List UInt8), x ∈ l → (cutB x l).1.length < l.length := by
      intro l
      induction l with
      | nil => intro h; cases h
      | cons a r ih =>
        intro h
        unfold cutB
        by_cases ha : a = x
        · rw [if_pos ha]; simp
        · rw [if_neg ha]
          have := ih (by rcases List.mem_cons.1 h with h | h
                         · exact absurd h.symm ha
                         · exact h)
          simp; omega
    have := hmem b hx
    rw [e, h1] at this; omega
  unfold joinU
  by_cases hk : k = []
  · rw [if_pos hk, hf, hk]
  · rw [if_neg hk]
    simp only [splitU, if_true, cutB_app k hn]
end Go.Proofs.YtlalpnnnnmcejaaGreatDoor
/- Two queries compared; the laws UriEscapes, UriNames. -/
set_option linter.unusedVariables false
set_option linter.unusedSimpArgs false
namespace Go.Proofs.YtlalpnnnnmcejaaGreatDoor
open Go Go.RowKit
theorem take_eq_all {ps qs : List PairD} (h : ps.length = qs.length) (ha : ∀ j, j < ps.length → gU ps j = gU qs j) : ps = qs := by
  refine List.ext_getElem h fun i h1 h2 => ?_
  have := ha i h1
  rw [gU_get _ _ h1, gU_get _ _ h2] at this
  exact this
set_option maxRecDepth 100000 in
set_option maxHeartbeats 1000000 in
theorem same_any (A B : Option Addr) (n m cA cB : Nat) (ps qs : List PairD) (w : World) (h : PairsAt w A n ps) (h2 : PairsAt w B m qs) (hn : n ≤ 1000000000) (hm : m ≤ 1000000000) :
    Calls Tryz.prog 15 #[.slice A n cA, .slice B m cB] w fun e w' => e = .returned (.bool (decide (ps = qs))) ∧ Q w w' := by
  have HP := Lib.hid h
  have HP2 := Lib.hid h2
  have HN := Lib.hid h.1
  have HM := Lib.hid h2.1
  clear h h2
  by_cases hnm : n = m
  · have HLE : Hid (ps.length = qs.length) := Lib.hid (by rw [← HN.out, ← HM.out, hnm])
    subst hnm
    clear hm
    go_enter Tryz.func15, Tryz.ntmps15
    go_wp2_with fail
    go_loopw [5] (fun i wr => ∃ k : Nat, k ≤ n ∧ i = .int .i64 (k : Int) ∧ Hid (∀ j, j < k → gU ps j = gU qs j) ∧ Hid (Q w wr)) (fun i _ => n - (intOf i).toNat)
    case atStart => exact ⟨0, by omega, rfl, Lib.hid (fun j h => by omega), Lib.hid (Q.refl _)⟩
    case round =>
      obtain ⟨k, hk, rfl, HA, HQ⟩ := hrel
      by_cases hlt : k < n
      · have g1 : decide (k < n) = true := by simpa using hlt
        obtain ⟨g, off, rfl, e0, e1⟩ := (HP.out.q HQ.out).at hlt
        obtain ⟨g2, off2, rfl, e2, e3⟩ := (HP2.out.q HQ.out).at hlt
        obtain ⟨⟨x, y⟩, hx⟩ : ∃ p, gU ps k = p := ⟨_, rfl⟩
        obtain ⟨⟨x2, y2⟩, hx2⟩ : ∃ p, gU qs k = p := ⟨_, rfl⟩
        rw [hx] at e0 e1
        rw [hx2] at e2 e3
        simp only at e0 e1 e2 e3
        have HX := Lib.hid hx
        have HX2 := Lib.hid hx2
        clear hx hx2
        go_upto_region 6 with (fail)
        by_cases hxe : x = x2
        · subst hxe
          by_cases hye : y = y2
          · subst hye
            have HA2 : Hid (∀ j, j < k + 1 → gU ps j = gU qs j) := Lib.hid (fun j hj => by
              by_cases e : j = k
              · subst e; rw [HX.out, HX2.out]
              · exact HA.out j (by omega))
            go_region
            clear e0 e1 e2 e3
            go_wp2_with fail
            go_roundw
            case rel => exact ⟨k + 1, by omega, by go_num, HA2, Lib.hid HQ.out.drew⟩
            case measure => simp [intOf]; omega
          · have HNE : Hid (decide (ps = qs) = false) := Lib.hid (decide_eq_false (fun e => hye (by have h1 := HX.out; rw [e, HX2.out] at h1; injection h1 with _ h2; exact h2.symm)))
            go_region
            clear e0 e1 e2 e3
            go_wp2_with fail
            go_ret
            rw [HNE.out]
            exact ⟨rfl, HQ.out.drew⟩
        · have HNE : Hid (decide (ps = qs) = false) := Lib.hid (decide_eq_false (fun e => hxe (by have h1 := HX.out; rw [e, HX2.out] at h1; injection h1 with h2 _; exact h2.symm)))
          go_region
          clear e0 e1 e2 e3
          go_wp2_with fail
          go_ret
          rw [HNE.out]
          exact ⟨rfl, HQ.out.drew⟩
      · obtain rfl : k = n := by omega
        have HEQ : Hid (decide (ps = qs) = true) := Lib.hid (decide_eq_true (take_eq_all HLE.out (fun j hj => HA.out j (by rw [HN.out]; exact hj))))
        clear HA hlt
        go_wp2_with fail
        go_ret
        rw [HEQ.out]
        exact ⟨rfl, HQ.out⟩
  · have HNE : Hid (decide (ps = qs) = false) := Lib.hid (decide_eq_false (fun e => hnm (by rw [HN.out, HM.out, e])))
    have q1 : ((n : Int) == (m : Int)) = false := by rw [beq_eq_false_iff_ne]; omega
    have q2 : ((n : Int) != (m : Int)) = true := by simp [bne, q1]
    have q3 : ¬ (n : Int) = (m : Int) := by omega
    clear hnm
    go_enter Tryz.func15, Tryz.ntmps15
    go_wp2_with fail
    go_ret
    rw [HNE.out]
    exact ⟨rfl, Q.refl _⟩
end Go.Proofs.YtlalpnnnnmcejaaGreatDoor
/- Join; the document's Split, Join, Bucket. -/
set_option linter.unusedVariables false
set_option linter.unusedSimpArgs false
namespace Go.Proofs.YtlalpnnnnmcejaaGreatDoor
open Go Go.RowKit
theorem Join_any (b k : List UInt8) (w : World) (hb : b.length ≤ 100000000) (hk : k.length ≤ 100000000) :
    Calls Tryz.prog 20 #[.string ⟨b.toArray⟩, .string ⟨k.toArray⟩] w fun e w' => e = .returned (.string ⟨(joinU b k).toArray⟩) ∧ w' = w := by
  rcases k with _ | ⟨x, r⟩
  · go_enter Tryz.func20, Tryz.ntmps20
    go_wp2_with fail
    go_ret
    exact ⟨by simp [joinU], rfl⟩
  · have HJ : Hid (joinU b (x :: r) = 47 :: (b ++ 47 :: (x :: r))) := Lib.hid (by unfold joinU; rw [if_neg (by simp)])
    obtain ⟨k, hk2⟩ : ∃ k, x :: r = k := ⟨_, rfl⟩
    have hE : k.isEmpty = false := by rw [← hk2]; rfl
    rw [hk2] at HJ hk ⊢
    clear hk2
    go_enter Tryz.func20, Tryz.ntmps20
    go_wp2_with fail
    go_ret
    exact ⟨by rw [HJ.out]; simp, rfl⟩
theorem RJoin_any (b k : List UInt8) (w : World) (hb : b.length ≤ 100000000) (hk : k.length ≤ 100000000) :
    Calls Tryz.prog 22 #[.string ⟨b.toArray⟩, .string ⟨k.toArray⟩] w fun e w' => e = .returned (.string ⟨(joinU b k).toArray⟩) ∧ w' = w := by
  rcases k with _ | ⟨x, r⟩
  · go_enter Tryz.func22, Tryz.ntmps22
    go_wp2_with fail
    go_ret
    exact ⟨by simp [joinU], rfl⟩
  · have HJ : Hid (joinU b (x :: r) = 47 :: (b ++ 47 :: (x :: r))) := Lib.hid (by unfold joinU; rw [if_neg (by simp)])
    obtain ⟨k, hk2⟩ : ∃ k, x :: r = k := ⟨_, rfl⟩
    have hE : k.isEmpty = false := by rw [← hk2]; rfl
    rw [hk2] at HJ hk ⊢
    clear hk2
    go_enter Tryz.func22, Tryz.ntmps22
    go_wp2_with fail
    go_ret
    exact ⟨by rw [HJ.out]; simp, rfl⟩
theorem splitU_at {l : List UInt8} {k : Nat} (h0 : 0 < l.length) (h : gB l 0 = 47) (hk1 : 1 ≤ k) (hk : k ≤ l.length) (hn : ∀ j, 1 ≤ j → j < k → gB l j ≠ 47) (hc : k < l.length → gB l k = 47) : splitU l = (sub l 1 k, sub l (k + 1) l.length) := by
  rcases l with _ | ⟨x, r⟩
  · simp at h0
  · have hx : x = 47 := by simpa [gB] using h
    subst hx
    obtain ⟨m, rfl⟩ : ∃ m, k = m + 1 := ⟨k - 1, by omega⟩
    have hA : AtC 47 r m := ⟨by simp at hk; omega, fun j hj => by
      have := hn (j + 1) (by omega) (by omega); simpa [gB] using this, fun hq => by
      have := hc (by simp; omega); simpa [gB] using this⟩
    simp only [splitU, if_true, cutB_at r hA]
    simp [sub]
set_option maxRecDepth 100000 in
set_option maxHeartbeats 1000000 in
theorem RSplit_any (l : List UInt8) (w : World) (hl : l.length ≤ 100000000) :
    Calls Tryz.prog 21 #[.string ⟨l.toArray⟩] w fun e w' => e = .returned (.tuple #[.string ⟨(splitU l).1.toArray⟩, .string ⟨(splitU l).2.toArray⟩]) ∧ Q w w' := by
  by_cases hz : l.length = 0
  · have hE : l.isEmpty = true := by simpa using List.eq_nil_of_length_eq_zero hz
    have HS : Hid (splitU l = ([], [])) := Lib.hid (by rw [List.eq_nil_of_length_eq_zero hz]; rfl)
    clear hz
    go_enter Tryz.func21, Tryz.ntmps21
    go_wp2_with fail
    go_ret2
    rw [HS.out]
    exact ⟨rfl, Q.refl _⟩
  · have hzl : 0 < l.length := by omega
    have hE : l.isEmpty = false := by
      rcases l with _ | ⟨x, r⟩
      · exact absurd rfl hz
      · rfl
    clear hz
    by_cases h0 : gB l 0 = 47
    · have h0e : (((gB l 0).toNat : Int) == 47) = true := by rw [h0]; rfl
      have H0 := Lib.hid h0
      clear h0
      go_enter Tryz.func21, Tryz.ntmps21
      go_wp2_with fail
      clear h0e hE
      go_loopw [4] (fun i wr => ∃ k : Nat, 1 ≤ k ∧ k ≤ l.length ∧ i = .int .i64 (k : Int) ∧ Hid (∀ j, 1 ≤ j → j < k → gB l j ≠ 47) ∧ wr = w) (fun i _ => l.length - (intOf i).toNat)
      case atStart => exact ⟨1, by omega, by omega, rfl, Lib.hid (fun j h1 h2 => by omega), rfl⟩
      case round =>
        obtain ⟨k, hk1, hk, rfl, HN, rfl⟩ := hrel
        by_cases hlt : k < l.length
        · have g1 : decide (k < l.length) = true := by simpa using hlt
          by_cases hc : gB l k = 47
          · have c1 : (((gB l k).toNat : Int) == 47) = true := by rw [hc]; rfl
            have HS := Lib.hid (splitU_at hzl H0.out hk1 hk HN.out (fun _ => hc))
            clear hc
            go_upto_region 7 with (fail)
            go_region
            go_wp2_with fail
            go_ret2
            rw [HS.out]
            refine ⟨?_, (Q.refl _).drew⟩
            first | rfl | (show Ending.returned (.tuple #[_, _]) = _; simp)
          · have c2 : ¬ ((gB l k).toNat : Int) = 47 := fun h => hc (UInt8.toNat_inj.1 (show (gB l k).toNat = 47 by omega))
            have c1 : (((gB l k).toNat : Int) == 47) = false := by simpa using c2
            have HN2 : Hid (∀ j, 1 ≤ j → j < k + 1 → gB l j ≠ 47) := Lib.hid (fun j h1 h2 => by
              by_cases e : j = k
              · subst e; exact hc
              · exact HN.out j h1 (by omega))
            clear hc
            go_wp2_with fail
            go_roundw
            case rel => exact ⟨k + 1, by omega, by omega, by go_num, HN2, trivial⟩
            case measure => simp [intOf]; omega
        · obtain rfl : k = l.length := by omega
          have HS : Hid (splitU l = (sub l 1 l.length, [])) := Lib.hid (by
            rw [splitU_at hzl H0.out hk1 hk HN.out (fun h => by omega)]; simp [sub])
          clear HN hlt hk
          go_wp2_with fail
          go_ret2
          rw [HS.out]
          exact ⟨rfl, Q.refl _⟩
    · have h0' : ¬ ((gB l 0).toNat : Int) = 47 := fun h => h0 (UInt8.toNat_inj.1 (show (gB l 0).toNat = 47 by omega))
      have h0e : (((gB l 0).toNat : Int) == 47) = false := by simpa using h0'
      have HS : Hid (splitU l = ([], [])) := Lib.hid (by
        rcases l with _ | ⟨x, r⟩
        · rfl
        · have : x ≠ 47 := by simpa [gB] using h0
          simp [splitU, this])
      clear h0
      go_enter Tryz.func21, Tryz.ntmps21
      go_wp2_with fail
      go_ret2
      rw [HS.out]
      exact ⟨rfl, Q.refl _⟩
end Go.Proofs.YtlalpnnnnmcejaaGreatDoor
