/- Texts of this proof, laid into one: UrY, UrZ, UrU, UrV, VaA, VaB, VaC, SgD, SgE, VaL. -/
import Derived.Test.YtmmoenbmgcplkaaGreatDoorMy08
set_option linter.unusedVariables false
set_option linter.unusedSimpArgs false
namespace Go.Proofs.YtmmoenbmgcplkaaGreatDoor
open Go Go.RowKit
def rPieces : List (List UInt8) → Nat → List PairD → Option Nat × List PairD
  | [], _, acc => (none, acc)
  | p :: r, at_, acc =>
    if p = [] then rPieces r (at_ + 1) acc
    else match (decR (cutB 61 p).1).2 with
      | some k => (some (at_ + k), [])
      | none =>
        if (cutB 61 p).2.2 then
          match (decR (cutB 61 p).2.1).2 with
          | some k => (some (at_ + (cutB 61 p).1.length + 1 + k), [])
          | none => rPieces r (at_ + (p.length + 1)) (acc ++ [((decR (cutB 61 p).1).1, (decR (cutB 61 p).2.1).1)])
        else rPieces r (at_ + (p.length + 1)) (acc ++ [((decR (cutB 61 p).1).1, [])])
theorem stepT_keep (st : TSt) (p : List UInt8) (h : 0 ≤ st.bad) : (stepT st p).bad = st.bad := by
  have hb : ∀ t a, badT t a st.bad = st.bad := fun t a => by
    unfold badT; rcases (decR t).2 with _ | k
    · rfl
    · simp only; rw [if_neg (by omega)]
  unfold stepT
  split
  · rfl
  · split
    · simp only [hb]
    · simp only [hb]
theorem fold_keep (ls : List (List UInt8)) : ∀ st : TSt, 0 ≤ st.bad → (ls.foldl stepT st).bad = st.bad := by
  induction ls with
  | nil => intro st _; rfl
  | cons p r ih => intro st h; rw [List.foldl_cons, ih _ (by rw [stepT_keep st p h]; exact h), stepT_keep st p h]
theorem pieces_fold (ls : List (List UInt8)) : ∀ (at_ : Nat) (acc : List PairD),
    match rPieces ls at_ acc with
    | (some b, _) => (ls.foldl stepT ⟨acc, (at_ : Int), -1⟩).bad = (b : Int)
    | (none, ps) => (ls.foldl stepT ⟨acc, (at_ : Int), -1⟩).bad = -1 ∧ (ls.foldl stepT ⟨acc, (at_ : Int), -1⟩).ps = ps := by
  induction ls with
  | nil => intro at_ acc; simp [rPieces]
  | cons p r ih =>
    intro at_ acc
    unfold rPieces
    rw [List.foldl_cons]
    by_cases hp : p = []
    · rw [if_pos hp]
      have e : stepT ⟨acc, (at_ : Int), -1⟩ p = ⟨acc, ((at_ + 1 : Nat) : Int), -1⟩ := by unfold stepT; rw [if_pos hp]; simp
      rw [e]; exact ih _ _
    · rw [if_neg hp]
      have hc := cutB_len 61 p
      rcases hn : (decR (cutB 61 p).1).2 with _ | k
      · have hon : (decOut (cutB 61 p).1).1 = (decR (cutB 61 p).1).1 := by unfold decOut; rw [hn]
        have hbn : ∀ a, badT (cutB 61 p).1 a (-1) = -1 := fun a => by unfold badT; rw [hn]
        rcases hf : (cutB 61 p).2.2 with _ | _
        · have e : stepT ⟨acc, (at_ : Int), -1⟩ p = ⟨acc ++ [((decR (cutB 61 p).1).1, [])], ((at_ + (p.length + 1) : Nat) : Int), -1⟩ := by
            have hlen : (cutB 61 p).1.length = p.length := by rw [(hc.2 hf).1]
            unfold stepT; rw [if_neg hp, hf]; simp only [Bool.false_eq_true, if_false, hon, hbn, hlen, TSt.mk.injEq, and_true, true_and]; omega
          rw [e]; simp only [Bool.false_eq_true, if_false]; exact ih _ _
        · simp only [if_true]
          have hl := hc.1 hf
          rcases hv : (decR (cutB 61 p).2.1).2 with _ | k2
          · have hov : (decOut (cutB 61 p).2.1).1 = (decR (cutB 61 p).2.1).1 := by unfold decOut; rw [hv]
            have hbv : ∀ a, badT (cutB 61 p).2.1 a (-1) = -1 := fun a => by unfold badT; rw [hv]
            have e : stepT ⟨acc, (at_ : Int), -1⟩ p = ⟨acc ++ [((decR (cutB 61 p).1).1, (decR (cutB 61 p).2.1).1)], ((at_ + (p.length + 1) : Nat) : Int), -1⟩ := by
              unfold stepT; rw [if_neg hp, hf]; simp only [if_true, hon, hov, hbn, hbv, TSt.mk.injEq, and_true, true_and]; omega
            rw [e]; exact ih _ _
          · have hb2 : (stepT ⟨acc, (at_ : Int), -1⟩ p).bad = ((at_ + (cutB 61 p).1.length + 1 + k2 : Nat) : Int) := by
              unfold stepT; rw [if_neg hp, hf]; simp only [if_true, hbn]
              unfold badT; rw [hv]; simp only; rw [if_pos (by omega)]; omega
            simp only
            rw [fold_keep r _ (by rw [hb2]; omega), hb2]
      · have hb1 : (stepT ⟨acc, (at_ : Int), -1⟩ p).bad = ((at_ + k : Nat) : Int) := by
          have h1 : badT (cutB 61 p).1 (at_ : Int) (-1) = ((at_ + k : Nat) : Int) := by unfold badT; rw [hn]; simp only; rw [if_pos (by omega)]; omega
          have h2 : ∀ t a, badT t a ((at_ + k : Nat) : Int) = ((at_ + k : Nat) : Int) := fun t a => by
            unfold badT; rcases (decR t).2 with _ | j
            · rfl
            · simp only; rw [if_neg (by omega)]
          unfold stepT; rw [if_neg hp]
          split
          · simp only [h1, h2]
          · simp only [h1]
        simp only
        rw [fold_keep r _ (by rw [hb1]; omega), hb1]
end Go.Proofs.YtmmoenbmgcplkaaGreatDoor
set_option linter.unusedVariables false
set_option linter.unusedSimpArgs false
namespace Go.Proofs.YtmmoenbmgcplkaaGreatDoor
open Go Go.RowKit
def okCond (pv b : UInt8) : Bool := (chrOk b || b == 46) && !(b == 46 && (pv == 46 || pv == 45)) && !(b == 45 && pv == 46)
def chk : UInt8 → List UInt8 → Bool
  | pv, [] => !(pv == 45 || pv == 46)
  | pv, b :: r => okCond pv b && chk b r
end Go.Proofs.YtmmoenbmgcplkaaGreatDoor
set_option linter.unusedVariables false
set_option linter.unusedSimpArgs false
namespace Go.Proofs.YtmmoenbmgcplkaaGreatDoor
open Go Go.RowKit
def leP (a b : PairD) : Bool := !(ltOf pcmp) b a
theorem leP_trans (a b c : PairD) (h1 : leP a b = true) (h2 : leP b c = true) : leP a c = true := by
  unfold leP at *
  simp only [Bool.not_eq_true'] at *
  exact swo_pair.ntrans c b a h2 h1
theorem leP_total (a b : PairD) : (leP a b || leP b a) = true := by
  unfold leP
  rcases h : ltOf pcmp b a with _ | _
  · rfl
  · rw [Sort.SWO.asymm swo_pair h]; rfl
theorem leP_anti (a b : PairD) (h1 : leP a b = true) (h2 : leP b a = true) : a = b := by
  unfold leP at *
  simp only [Bool.not_eq_true'] at *
  exact pcmp_total a b h2 h1
theorem cellsU_set (ps : List PairD) : ∀ (k : Nat) (p : PairD), k < ps.length → cellsU (ps.set k p) = (cellsU ps).take (k * 2) ++ pairL p ++ (cellsU ps).drop (k * 2 + 2) := by
  induction ps with
  | nil => intro k p h; simp at h
  | cons a r ih =>
    intro k p h
    have e : cellsU (a :: r) = pairL a ++ cellsU r := by simp [cellsU]
    have hl := pairL_len a
    cases k with
    | zero =>
      have e2 : cellsU ((a :: r).set 0 p) = pairL p ++ cellsU r := by simp [cellsU]
      rw [e2, e, Nat.zero_mul, List.take_zero, List.nil_append, Nat.zero_add, List.drop_append, hl]
      simp [pairL]
    | succ k =>
      have e2 : cellsU ((a :: r).set (k + 1) p) = pairL a ++ cellsU (r.set k p) := by simp [cellsU]
      rw [e2, e, ih k p (by simpa using h), List.take_append, List.drop_append, hl]
      have t1 : (pairL a).take ((k + 1) * 2) = pairL a := List.take_of_length_le (by rw [hl]; omega)
      have t2 : (pairL a).drop ((k + 1) * 2 + 2) = [] := List.drop_of_length_le (by rw [hl]; omega)
      rw [t1, t2, show (k + 1) * 2 - 2 = k * 2 by omega, show (k + 1) * 2 + 2 - 2 = k * 2 + 2 by omega]
      simp
theorem OwnU.setU {w0 w : World} {A : Option Addr} {len cap : Nat} {ps : List PairD} (h : OwnU w0 w (.slice A len cap) ps) (k : Nat) (hk : k < len) (p : PairD) : ∃ g, A = some ⟨g, 0, none⟩ ∧ w0.heap.size ≤ g ∧ w.there g (k * 2) (pairL p).toArray.size ∧
    OwnU w0 (w.setCells g (k * 2) (pairL p)) (.slice A len cap) (ps.set k p) ∧ w.grownBy (w.setCells g (k * 2) (pairL p)) (some g) := by
  rcases h.2 with ⟨hv, h0⟩ | ⟨g, cap', cur, hv, hb, hh, hn, hm, hcs, ht⟩
  · cases hv; omega
  · cases hv
    have hl5 : (pairL p).length = 2 := rfl
    have hfit : k * 2 + 2 ≤ cur.size := by rw [hcs]; omega
    have hset := heap_setCells g 37 (0, 0) (pairL p) (k * 2) w cur hh (by rw [hl5]; exact hfit)
    refine ⟨g, rfl, hb, ?_, ⟨by rw [cellsU_len], .inr ⟨g, cap, _, by rw [List.length_set], hb, hset, by rw [List.length_set]; exact hn, hm, ?_, ?_⟩⟩, setCells_gb g _ _ _⟩
    · intro j hj
      have hj5 : j < 2 := by simpa [hl5] using hj
      refine ⟨?_, frozen_of_row w g _ _ _ hh⟩
      rw [cell_of_row _ _ _ _ _ _ hh, Array.getElem?_eq_getElem (by omega)]; rfl
    · simp [hl5]; omega
    · rw [List.length_set, cellsU_set ps k p hk]
      have e1 : (cellsU ps).take (k * 2) = cur.toList.take (k * 2) := by rw [← ht, List.take_take, Nat.min_eq_left (by omega)]
      have e2 : (cellsU ps).drop (k * 2 + 2) = (cur.toList.drop (k * 2 + 2)).take (ps.length * 2 - (k * 2 + 2)) := by rw [← ht, List.drop_take]
      rw [e1, e2]
      have hl1 : (cur.toList.take (k * 2)).length = k * 2 := by rw [List.length_take]; simp; omega
      have ha : (cur.toList.take (k * 2) ++ pairL p).length = k * 2 + 2 := by rw [List.length_append, hl1, hl5]
      rw [List.take_append, ha, List.take_of_length_le (by rw [ha]; omega), hl5]
theorem wpList_append_us {ops : Array Oper} {rest : List Oper} {o : Oper} {a : Act} {R : Exit → Act → World → Prop} (hgd : o.guard = none) (s x : Operand)
    (ho : o.op = .call { callee := .builtin .append, args := #[s, x], argTypes := #[22, 22] })
    (w0 W : World) (v : Value) (ps qs : List PairD) (hs : a.eval s = v) (hown : OwnU w0 W v ps) (ad : Addr) (m c : Nat) (hm : qs.length = m) (hx : a.eval x = .slice (some ad) m c) (hc : ∀ j u, (cellsU qs)[j]? = some u → W.cell? (ad.add j) = some u) (hq : w0.heap.size ≤ W.heap.size) (hb : (ps.length + m) * 32 ≤ 140737488355328)
    (h : ∀ v' w', OwnU w0 w' v' (ps ++ qs) → W.grownBy w' v.ownBlock → wpList Tryz.prog ops R rest (a.put o.dst v') w') : wpList Tryz.prog ops R (o :: rest) a W := by
  obtain ⟨i, hi, hz, hsz, hby⟩ := info_parts info_pair
  refine wpList_append_own_at (w := W) hgd s x 22 ho w0.heap.size 37 i _ 2 32 Tryz.underlying22 hi hz hsz hby rfl (by decide) v ps.length (cellsU ps) hs hown ad m c (cellsU qs) hx (by rw [cellsU_len, hm]) hc ?_ (by unfold maxLen; omega) hb hq ?_
  · intro u hu
    unfold cellsU at hu
    obtain ⟨p, _, hp⟩ := List.mem_flatMap.1 hu
    exact one_cells p u hp
  · intro v' w' h2 hg _ hb2
    refine h v' w' ?_ hg
    unfold OwnU; rw [cellsU_app, List.length_append, hm]; exact h2
end Go.Proofs.YtmmoenbmgcplkaaGreatDoor
set_option linter.unusedVariables false
set_option linter.unusedSimpArgs false
namespace Go.Proofs.YtmmoenbmgcplkaaGreatDoor
open Go Go.RowKit
theorem OwnU.cap {w0 w : World} {A : Option Addr} {n cap : Nat} {l : List PairD} (h : OwnU w0 w (.slice A n cap) l) (hn : n ≠ 0) : cap ≤ 9223372036854775807 := by
  rcases h.2 with ⟨h1, _⟩ | ⟨g, c2, cur, h1, _, _, _, hm, _⟩
  · injection h1 with _ h2 _; omega
  · injection h1 with _ _ h3; subst h3; exact hm
theorem OwnU.el {w0 w : World} {A : Option Addr} {n cap : Nat} {l : List PairD} (h : OwnU w0 w (.slice A n cap) l) {j : Nat} (hj : j < l.length) : ∃ g, A = some ⟨g, 0, none⟩ ∧ w.cell? ⟨g, j * 2, none⟩ = some (.string ⟨(gU l j).1.toArray⟩) ∧ w.cell? ⟨g, j * 2 + 1, none⟩ = some (.string ⟨(gU l j).2.toArray⟩) ∧ w0.heap.size ≤ g ∧ g < w.heap.size := by
  obtain ⟨A', c', e, _, hc⟩ := h.at
  injection e with e1 _ _
  subst e1
  obtain ⟨g, hA, e0, e1⟩ := hc j hj
  have hb := h.block (k := g) (by rw [hA]; rfl)
  have hg : l[j] = gU l j := by simp [gU, List.getD, hj]
  rw [hg] at e0 e1
  exact ⟨g, hA, e0, e1, hb.1, hb.2.1⟩
end Go.Proofs.YtmmoenbmgcplkaaGreatDoor
set_option linter.unusedVariables false
set_option linter.unusedSimpArgs false
namespace Go.Proofs.YtmmoenbmgcplkaaGreatDoor
open Go Go.RowKit
def AtC (c : UInt8) (l : List UInt8) (q : Nat) : Prop := q ≤ l.length ∧ (∀ j, j < q → gB l j ≠ c) ∧ (q < l.length → gB l q = c)
theorem AtC.tail {c x : UInt8} {l : List UInt8} {q : Nat} (h : AtC c (x :: l) (q + 1)) : AtC c l q := by
  obtain ⟨h1, h2, h3⟩ := h
  refine ⟨by simp at h1; omega, fun j hj => ?_, fun hq => ?_⟩
  · have := h2 (j + 1) (by omega); simpa [gB] using this
  · have := h3 (by simp; omega); simpa [gB] using this
theorem cutB_at {c : UInt8} (l : List UInt8) : ∀ {q : Nat}, AtC c l q → cutB c l = (l.take q, l.drop (q + 1), decide (q < l.length)) := by
  induction l with
  | nil => intro q h; have := h.1; simp at this; subst this; simp [cutB]
  | cons x r ih =>
    intro q h
    rcases q with _ | q
    · have := h.2.2 (by simp)
      have hx : x = c := by simpa [gB] using this
      simp [cutB, hx]
    · have hx : x ≠ c := by have := h.2.1 0 (by omega); simpa [gB] using this
      have := ih h.tail
      unfold cutB
      rw [if_neg hx, this]
      simp
theorem splitC_at {c : UInt8} (l : List UInt8) : ∀ {q : Nat}, AtC c l q → splitC c l = l.take q :: (if q < l.length then splitC c (l.drop (q + 1)) else []) := by
  induction l with
  | nil => intro q h; have := h.1; simp at this; subst this; simp [splitC]
  | cons x r ih =>
    intro q h
    rcases q with _ | q
    · have := h.2.2 (by simp)
      have hx : x = c := by simpa [gB] using this
      simp [splitC, hx]
    · have hx : x ≠ c := by have := h.2.1 0 (by omega); simpa [gB] using this
      have := ih h.tail
      rw [splitC, if_neg hx, this]
      simp only [List.take_succ_cons, List.drop_succ_cons, List.length_cons, Nat.add_lt_add_iff_right]
def remT (s : List UInt8) (at_ : Nat) (out : List PairD) : Option Nat × List PairD := if at_ ≤ s.length then rPieces (splitC 38 (s.drop at_)) at_ out else (none, out)
theorem gB_drop (l : List UInt8) (a j : Nat) : gB (l.drop a) j = gB l (a + j) := by simp [gB]
theorem atC_sub {c : UInt8} {s : List UInt8} {a e : Nat} (ha : a ≤ e) (he : e ≤ s.length) (h1 : ∀ j, a ≤ j → j < e → gB s j ≠ c) (h2 : e < s.length → gB s e = c) : AtC c (s.drop a) (e - a) := by
  refine ⟨by simp; omega, fun j hj => ?_, fun hq => ?_⟩
  · rw [gB_drop]; exact h1 _ (by omega) (by omega)
  · rw [gB_drop, show a + (e - a) = e by omega]; exact h2 (by simp at hq; omega)
theorem rem_split {s : List UInt8} {a e : Nat} (ha : a ≤ e) (he : e ≤ s.length) (h1 : ∀ j, a ≤ j → j < e → gB s j ≠ 38) (h2 : e < s.length → gB s e = 38) : splitC 38 (s.drop a) = sub s a e :: (if e < s.length then splitC 38 (s.drop (e + 1)) else []) := by
  rw [splitC_at _ (atC_sub ha he h1 h2), List.drop_drop]
  rw [show a + (e - a + 1) = e + 1 by omega]
  have e1 : (s.drop a).take (e - a) = sub s a e := by unfold sub; rw [List.drop_take]
  rw [e1]
  have e2 : (e - a < (s.drop a).length) = (e < s.length) := by simp; omega
  simp only [e2]
theorem rem_rest {s : List UInt8} {e : Nat} (he : e ≤ s.length) (out : List PairD) : rPieces (if e < s.length then splitC 38 (s.drop (e + 1)) else []) (e + 1) out = remT s (e + 1) out := by
  unfold remT
  by_cases h : e < s.length
  · rw [if_pos h, if_pos (by omega)]
  · rw [if_neg h, if_neg (by omega)]; rfl
theorem rem_empty {s : List UInt8} {a : Nat} {out : List PairD} (he : a ≤ s.length) (h2 : a < s.length → gB s a = 38) : remT s a out = remT s (a + 1) out := by
  have h := rem_split (Nat.le_refl a) he (fun j h1 h2 => by omega) h2
  have h0 : sub s a a = [] := by unfold sub; simp
  rw [h0] at h
  conv => lhs; unfold remT
  rw [if_pos he, h, rPieces, if_pos rfl, rem_rest he]
theorem sub_cut {s : List UInt8} {a k e : Nat} (ha : a ≤ k) (hk : k ≤ e) (he : e ≤ s.length) (h1 : ∀ j, a ≤ j → j < k → gB s j ≠ 61) (h2 : k < e → gB s k = 61) : cutB 61 (sub s a e) = (sub s a k, sub s (k + 1) e, decide (k < e)) := by
  have hs : sub s a e = (s.take e).drop a := rfl
  have ht : ∀ j, j < e → gB (s.take e) j = gB s j := fun j hj => by simp [gB, List.getD, List.getElem?_take, hj]
  have hA : AtC 61 ((s.take e).drop a) (k - a) := atC_sub ha (by simp; omega) (fun j h3 h4 => by rw [ht j (by omega)]; exact h1 j h3 h4) (fun hq => by simp at hq; rw [ht k (by omega)]; exact h2 (by omega))
  rw [hs, cutB_at _ hA]
  have e1 : ((s.take e).drop a).take (k - a) = sub s a k := by unfold sub; rw [← List.drop_take, List.take_take]; congr 2; omega
  have e2 : ((s.take e).drop a).drop (k - a + 1) = sub s (k + 1) e := by unfold sub; rw [List.drop_drop]; congr 1; omega
  have e3 : (k - a < ((s.take e).drop a).length) = (k < e) := by simp; omega
  simp only [e1, e2, e3]
theorem sub_ne {s : List UInt8} {a e : Nat} (h : a < e) (he : e ≤ s.length) : sub s a e ≠ [] := by
  intro h0
  have := length_sub s a e
  rw [h0, List.length_nil] at this; omega
theorem rem_piece {s : List UInt8} {a k e : Nat} {out : List PairD} (hae : a < e) (ha : a ≤ k) (hk : k ≤ e) (he : e ≤ s.length) (h1 : ∀ j, a ≤ j → j < e → gB s j ≠ 38) (h2 : e < s.length → gB s e = 38)
    (h3 : ∀ j, a ≤ j → j < k → gB s j ≠ 61) (h4 : k < e → gB s k = 61) :
    remT s a out = match (decR (sub s a k)).2 with
      | some b => (some (a + b), [])
      | none => if k < e then (match (decR (sub s (k + 1) e)).2 with
          | some b => (some (k + 1 + b), [])
          | none => remT s (e + 1) (out ++ [((decR (sub s a k)).1, (decR (sub s (k + 1) e)).1)]))
        else remT s (e + 1) (out ++ [((decR (sub s a k)).1, [])]) := by
  have hs := rem_split (Nat.le_of_lt hae) he h1 h2
  have hl : a + ((sub s a e).length + 1) = e + 1 := by rw [length_sub]; omega
  have hl2 : a + (sub s a k).length + 1 = k + 1 := by rw [length_sub]; omega
  conv => lhs; unfold remT
  rw [if_pos (by omega), hs, rPieces, if_neg (sub_ne hae he), sub_cut ha hk he h3 h4]
  simp only [hl, hl2, rem_rest he, decide_eq_true_eq]
  all_goals
    rcases (decR (sub s a k)).2 with _ | b
    · simp only
      by_cases hke : k < e
      · rw [if_pos hke, if_pos hke]
        rcases (decR (sub s (k + 1) e)).2 with _ | b <;> rfl
      · rw [if_neg hke, if_neg hke]
    · rfl
theorem rtgt_path {s : List UInt8} {q k : Nat} (h0 : s.head? = some 47) (hb : s.findIdx? badC = none) (hq : AtC 63 s q) (hk : (decR (s.take q)).2 = some k) : tgtL s = ([], [], 52, (k : Int)) := by
  unfold tgtL
  rw [if_pos h0, hb]
  have hc := cutB_at s hq
  have e : (runT s).bad = (k : Int) := by
    unfold runT startT
    rw [hc]
    have : badT (s.take q) 0 (-1) = (k : Int) := by unfold badT; rw [hk]; simp
    simp only [this]
    rw [fold_keep _ _ (by show (0 : Int) ≤ (k : Int); omega)]
  simp only [e]
  rw [if_pos (by omega)]
theorem rtgt_rest {s : List UInt8} {q : Nat} (h0 : s.head? = some 47) (hb : s.findIdx? badC = none) (hq : AtC 63 s q) (hk : (decR (s.take q)).2 = none) :
    tgtL s = match remT s (q + 1) [] with | (some b, _) => ([], [], 52, (b : Int)) | (none, ps) => ((decR (s.take q)).1, ps, 0, 0) := by
  unfold tgtL
  rw [if_pos h0, hb]
  have hc := cutB_at s hq
  have hd : (decOut (s.take q)).1 = (decR (s.take q)).1 := by unfold decOut; rw [hk]
  have hbt : badT (s.take q) 0 (-1) = -1 := by unfold badT; rw [hk]
  have hl : (((s.take q).length : Int) + 1) = ((q + 1 : Nat) : Int) := by have := hq.1; simp; omega
  have hr : runT s = (splitC 38 (s.drop (q + 1))).foldl stepT ⟨[], ((q + 1 : Nat) : Int), -1⟩ := by
    unfold runT startT; rw [hc]; simp only [hbt, hl]
  have hrem : remT s (q + 1) [] = rPieces (splitC 38 (s.drop (q + 1))) (q + 1) [] := by
    unfold remT
    by_cases h : q + 1 ≤ s.length
    · rw [if_pos h]
    · rw [if_neg h, List.drop_of_length_le (by omega)]; simp [splitC, rPieces]
  have hp := pieces_fold (splitC 38 (s.drop (q + 1))) (q + 1) []
  rw [← hr, ← hrem] at hp
  rw [hc]
  simp only [hd]
  rcases hx : remT s (q + 1) [] with ⟨_ | b, ps⟩
  · rw [hx] at hp; simp only at hp; obtain ⟨hp1, hp2⟩ := hp; simp only [hp1, hp2]; rw [if_neg (by omega)]
  · rw [hx] at hp; simp only at hp; simp only [hp]; rw [if_pos (by omega)]
end Go.Proofs.YtmmoenbmgcplkaaGreatDoor
set_option linter.unusedVariables false
set_option linter.unusedSimpArgs false
namespace Go.Proofs.YtmmoenbmgcplkaaGreatDoor
open Go Go.RowKit
def UpP (l : List PairD) : Prop := l.Pairwise fun a b => leP a b = true
theorem ins_up {ys : List PairD} {k : Nat} {x : PairD} (h : UpP ys) (hk : k ≤ ys.length) (h1 : ∀ j, k ≤ j → j < ys.length → leP x (gU ys j) = true) (h2 : k = 0 ∨ leP (gU ys (k - 1)) x = true) : UpP (ys.take k ++ x :: ys.drop k) := by
  unfold UpP at *
  have h' : (ys.take k ++ ys.drop k).Pairwise fun a b => leP a b = true := by rw [List.take_append_drop]; exact h
  rw [List.pairwise_append] at h'
  obtain ⟨p1, p2, p3⟩ := h'
  have hx : ∀ b ∈ ys.drop k, leP x b = true := fun b hb => by
    obtain ⟨j, hj, rfl⟩ := List.mem_iff_getElem.1 hb
    have hj2 : k + j < ys.length := by simp at hj; omega
    have := h1 (k + j) (by omega) hj2
    rw [gU_get _ _ hj2] at this
    simpa using this
  have hy : ∀ a ∈ ys.take k, leP a x = true := fun a ha => by
    obtain ⟨j, hj, rfl⟩ := List.mem_iff_getElem.1 ha
    simp only [List.length_take] at hj
    rcases h2 with h0 | h2
    · omega
    · rw [gU_get _ _ (by omega)] at h2
      rw [List.getElem_take]
      by_cases e : j = k - 1
      · subst e; exact h2
      · exact leP_trans _ _ _ (List.pairwise_iff_getElem.1 h j (k - 1) (by omega) (by omega) (by omega)) h2
  rw [List.pairwise_append]
  refine ⟨p1, List.pairwise_cons.2 ⟨hx, p2⟩, fun a ha b hb => ?_⟩
  rcases List.mem_cons.1 hb with rfl | hb
  · exact hy a ha
  · exact p3 a ha b hb
theorem ins_perm (ys : List PairD) (k : Nat) (x : PairD) : (ys.take k ++ x :: ys.drop k).Perm (ys ++ [x]) := by
  refine List.perm_middle.trans ?_
  rw [List.take_append_drop]
  exact (List.perm_append_comm (l₁ := [x]) (l₂ := ys))
theorem up_sortP {l m : List PairD} (h : UpP l) (hp : l.Perm m) : l = sortP m := by
  have e2 : sortP m = m.mergeSort leP := rfl
  rw [e2]
  exact (hp.trans (List.mergeSort_perm m leP).symm).eq_of_pairwise (fun a b _ _ => leP_anti a b) h (List.pairwise_mergeSort leP_trans leP_total m)
theorem ltP_iff (a b : PairD) : ltOf pcmp a b = true ↔ a.1 < b.1 ∨ (a.1 = b.1 ∧ a.2 < b.2) := by
  unfold ltOf; rw [decide_eq_true_eq, pcmp_lt]
theorem ins_step (ys : List PairD) (k : Nat) (x : PairD) (hk : k + 1 ≤ ys.length) :
    ((ys.take (k + 1) ++ x :: ys.drop (k + 1)).set (k + 1) (gU ys k)).set k x = ys.take k ++ x :: ys.drop k := by
  have e1 : ys.take (k + 1) = ys.take k ++ [gU ys k] := take_snocP ys k (by omega)
  have e2 : ys.drop k = gU ys k :: ys.drop (k + 1) := by rw [List.drop_eq_getElem_cons (by omega), gU_get _ _ (by omega)]
  have hl : (ys.take k).length = k := by simp; omega
  rw [e1, e2, List.append_assoc]
  simp only [List.singleton_append]
  rw [List.set_append_right _ _ (by omega), hl, show k + 1 - k = 1 by omega]
  rw [List.set_append_right _ _ (by omega), hl, show k - k = 0 by omega]
  simp
end Go.Proofs.YtmmoenbmgcplkaaGreatDoor
set_option linter.unusedVariables false
set_option linter.unusedSimpArgs false
namespace Go.Proofs.YtmmoenbmgcplkaaGreatDoor
open Go Go.RowKit
theorem cutB_app {c : UInt8} {a : List UInt8} (r : List UInt8) (h : ∀ b ∈ a, b ≠ c) : cutB c (a ++ c :: r) = (a, r, true) := by
  induction a with
  | nil => simp [cutB]
  | cons x t ih =>
    rw [List.cons_append]; unfold cutB
    rw [if_neg (h x List.mem_cons_self), ih (fun b hb => h b (List.mem_cons_of_mem _ hb))]
theorem join_nil (c : List UInt8) : Lib.join [] c = [] := by simp [Lib.join, List.intercalate]
theorem join_one (a : List UInt8) (c : List UInt8) : Lib.join [a] c = a := by simp [Lib.join, List.intercalate]
theorem join_cons (a b : List UInt8) (r : List (List UInt8)) (c : List UInt8) : Lib.join (a :: b :: r) c = a ++ c ++ Lib.join (b :: r) c := by unfold Lib.join; rw [List.intercalate_cons_cons]
theorem sum_len_join (c : UInt8) : ∀ xs : List (List UInt8), (Lib.join xs [c]).length ≤ sumU xs := by
  intro xs
  induction xs with
  | nil => rw [join_nil]; simp
  | cons a r ih =>
    rcases r with _ | ⟨b, r⟩
    · rw [join_one]; simp [sumU]
    · rw [join_cons]; simp only [sumU, List.map_cons, List.sum_cons, List.length_append, List.length_cons, List.length_nil] at *; omega
def heavy (ps : List PairD) : Nat := (ps.map fun p => p.1.length + p.2.length + 3).sum
theorem canon_heavy (l : List PairD) : (canonL l).length ≤ 3 * heavy l := by
  unfold canonL
  refine Nat.le_trans (sum_len_join 38 _) ?_
  unfold partsL sumU
  have hp : (sortP (l.map encP)).Perm (l.map encP) := List.mergeSort_perm _ _
  have h1 : (((sortP (l.map encP)).map joinE).map fun l => l.length + 1).sum = (((l.map encP).map joinE).map fun l => l.length + 1).sum := ((hp.map joinE).map _).sum_nat
  rw [h1]
  unfold heavy
  clear h1 hp
  induction l with
  | nil => simp
  | cons p r ih =>
    have a := encL_le true p.1
    have b := encL_le true p.2
    simp only [List.map_cons, List.sum_cons, joinE, encP, List.length_append, List.length_cons] at *
    omega
theorem heavy_mem {l : List PairD} {p : PairD} (h : p ∈ l) : p.1.length + p.2.length + 3 ≤ heavy l := by
  unfold heavy
  induction l with
  | nil => cases h
  | cons a r ih =>
    simp only [List.map_cons, List.sum_cons]
    rcases List.mem_cons.1 h with rfl | h
    · omega
    · have := ih h; omega
theorem heavy_len (l : List PairD) : 3 * l.length ≤ heavy l := by
  unfold heavy
  induction l with
  | nil => simp
  | cons a r ih => simp only [List.map_cons, List.sum_cons, List.length_cons]; omega
end Go.Proofs.YtmmoenbmgcplkaaGreatDoor
set_option linter.unusedVariables false
set_option linter.unusedSimpArgs false
namespace Go.Proofs.YtmmoenbmgcplkaaGreatDoor
open Go Go.RowKit
def okW (b : UInt8) : Bool := decide (32 < b.toNat) && decide (b.toNat ≤ 126) && decide (Lib.indexByte [47, 44, 61] b < 0)
def wordL (s : List UInt8) : Bool := s.all okW && !s.isEmpty
theorem all_snocW (l : List UInt8) (k : Nat) (h : k < l.length) (p : UInt8 → Bool) : (l.take (k + 1)).all p = ((l.take k).all p && p (gB l k)) := by
  rw [take_snocB l k h, List.all_append]; simp
theorem all_bad {l : List UInt8} {p : UInt8 → Bool} {k : Nat} (h : k < l.length) (hb : p (gB l k) = false) : l.all p = false := by
  rw [List.all_eq_false]
  exact ⟨l[k], List.getElem_mem h, by have : gB l k = l[k] := by simp [gB, List.getD, h]
                                      rw [← this, hb]; simp⟩
set_option maxRecDepth 100000 in
set_option maxHeartbeats 1000000 in
theorem word_any (s : List UInt8) (w : World) (hl : s.length ≤ 100000000) : Calls Tryz.prog 25 #[.string ⟨s.toArray⟩] w fun e w' => e = .returned (.bool (wordL s)) ∧ Q w w' := by
  obtain ⟨v, w1, hcv, hown, hq1, cap, hv⟩ := bytes_of s w (by omega)
  rw [hv] at hcv hown
  have HOW := Lib.hid hown
  have HQ1 := Lib.hid hq1
  clear hown hq1 hv
  go_enter Tryz.func25, Tryz.ntmps25
  go_wp2_with fail
  clear hcv
  go_loopw [8] (fun i wr => ∃ k : Nat, k ≤ s.length ∧ i = .int .i64 (k : Int) ∧ Hid ((s.take k).all okW = true) ∧ wr = w1) (fun i _ => s.length - (intOf i).toNat)
  case atStart => exact ⟨0, by omega, rfl, Lib.hid (by simp), rfl⟩
  case round =>
    obtain ⟨k, hk, rfl, HA, rfl⟩ := hrel
    by_cases hlt : k < s.length
    · have g1 : decide (k < s.length) = true := by simpa using hlt
      obtain ⟨g, cc, hv, _, _, _, hcell⟩ := HOW.out.pos (by omega)
      cases hv
      have cx := (hcell k hlt).1
      have HSN := Lib.hid (all_snocW s k hlt okW)
      have HB := Lib.hid (fun h => all_bad (p := okW) hlt h)
      clear hcell
      obtain ⟨b, hgb⟩ : ∃ b, gB s k = b := ⟨_, rfl⟩
      rw [hgb] at cx HSN HB
      have hi : Lib.indexByte (⟨#[47, 44, 61]⟩ : ByteArray).data.toList ((b.toNat : Int).toNat.toUInt8) = Lib.indexByte [47, 44, 61] b := by simp
      have HIB : Hid (∀ W, Calls Tryz.prog 60 #[.string ⟨#[47, 44, 61]⟩, .int .u8 (b.toNat : Int)] W fun e w' => e = .returned (.int .i64 (Lib.indexByte [47, 44, 61] b)) ∧ w' = W) := Lib.hid (fun W => by
        have := Tryz.strings_IndexByte ⟨#[47, 44, 61]⟩ (b.toNat : Int) W
        rw [hi] at this; exact this)
      have hok : okW b = (decide (32 < b.toNat) && decide (b.toNat ≤ 126) && decide (Lib.indexByte [47, 44, 61] b < 0)) := rfl
      have hzb : -1 ≤ Lib.indexByte [47, 44, 61] b ∧ Lib.indexByte [47, 44, 61] b ≤ 3 := by
        have h : ∀ n : Fin 256, -1 ≤ Lib.indexByte [47, 44, 61] n.val.toUInt8 ∧ Lib.indexByte [47, 44, 61] n.val.toUInt8 ≤ 3 := by decide +kernel
        have := h ⟨b.toNat, b.toNat_lt⟩
        simpa using this
      generalize Lib.indexByte [47, 44, 61] b = z at HIB hok hzb
      have hcs : ((b.toNat : Int) ≤ 32) ∨ (¬ (b.toNat : Int) ≤ 32 ∧ 126 < (b.toNat : Int)) ∨ (¬ (b.toNat : Int) ≤ 32 ∧ ¬ 126 < (b.toNat : Int) ∧ 0 ≤ z) ∨ (¬ (b.toNat : Int) ≤ 32 ∧ ¬ 126 < (b.toNat : Int) ∧ ¬ 0 ≤ z) := by omega
      have HOK := Lib.hid hok
      clear hok hi
      rcases hcs with h1 | ⟨h1, h2⟩ | ⟨h1, h2, h3⟩ | ⟨h1, h2, h3⟩
      · have HF : Hid (wordL s = false) := Lib.hid (by unfold wordL; rw [HB.out (by rw [HOK.out]; simp; omega)]; rfl)
        go_wp2_with fail
        go_ret
        exact ⟨by rw [HF.out]; rfl, HQ1.out⟩
      · have HF : Hid (wordL s = false) := Lib.hid (by unfold wordL; rw [HB.out (by rw [HOK.out]; simp; omega)]; rfl)
        go_wp2_with fail
        go_ret
        exact ⟨by rw [HF.out]; rfl, HQ1.out⟩
      · have HF : Hid (wordL s = false) := Lib.hid (by unfold wordL; rw [HB.out (by rw [HOK.out]; simp; omega)]; rfl)
        go_wp2_with fail
        refine (HIB.out _).mono ?_
        rintro e wx ⟨rfl, rfl⟩
        go_wp2_with fail
        go_ret
        exact ⟨by rw [HF.out]; rfl, HQ1.out⟩
      · have HA2 : Hid ((s.take (k + 1)).all okW = true) := Lib.hid (by rw [HSN.out, HA.out, HOK.out]; simp; omega)
        go_wp2_with fail
        refine (HIB.out _).mono ?_
        rintro e wx ⟨rfl, rfl⟩
        go_wp2_with fail
        go_roundw
        case rel => exact ⟨k + 1, by omega, by go_num, HA2, trivial⟩
        case measure => simp [intOf]; omega
    · obtain rfl : k = s.length := by omega
      have hA := HA.out
      rw [List.take_length] at hA
      have HR : Hid (wordL s = !s.isEmpty) := Lib.hid (by unfold wordL; rw [hA]; rfl)
      clear hA HA hlt HOW
      rcases hE : s.isEmpty with _ | _
      · rw [hE] at HR
        go_wp2_with fail
        go_ret
        refine ⟨?_, HQ1.out⟩
        rw [HR.out]
        first | rfl | (show Ending.returned (.bool _) = .returned (.bool true); simp [bne, hE])
      · rw [hE] at HR
        go_wp2_with fail
        go_ret
        refine ⟨?_, HQ1.out⟩
        rw [HR.out]
        first | rfl | (show Ending.returned (.bool _) = .returned (.bool false); simp [bne, hE])
theorem sub_zero0 (s : List UInt8) (q : Nat) : sub s 0 q = s.take q := by simp [sub]
def awsL : List UInt8 := [47, 115, 51, 47, 97, 119, 115, 52, 95, 114, 101, 113, 117, 101, 115, 116]
def scopeL (st rg : List UInt8) : List UInt8 := st.take 8 ++ 47 :: rg ++ awsL
theorem scope_any (st rg : List UInt8) (w : World) (h1 : st.length ≤ 100000000) (h2 : rg.length ≤ 100000000) : Calls Tryz.prog 32 #[.string ⟨st.toArray⟩, .string ⟨rg.toArray⟩] w fun e w' => e = .returned (.string ⟨(scopeL st rg).toArray⟩) ∧ w' = w := by
  obtain ⟨m, hm⟩ : ∃ m : Nat, min (8 : Int) (st.length : Int) = (m : Int) := ⟨min 8 st.length, by omega⟩
  have hms : m ≤ st.length := by omega
  have ht : sub st 0 m = st.take 8 := by
    rw [sub_zero0]
    rcases Nat.lt_or_ge st.length 8 with h | h
    · rw [List.take_of_length_le (by omega), List.take_of_length_le (by omega)]
    · rw [show m = 8 by omega]
  have HT := Lib.hid ht
  have hsl := length_sub st 0 m
  have hsl2 : (sub st 0 m).length ≤ 100000000 := by omega
  clear ht hsl
  go_enter Tryz.func32, Tryz.ntmps32
  go_wp2_with fail
  go_ret
  refine ⟨?_, rfl⟩
  show Ending.returned (.string _) = _
  unfold scopeL awsL
  rw [← HT.out]
  simp
theorem lit_cells (xs : List (List UInt8)) (w : World) (e : TypeId) : ∀ j, j < xs.length → (w.alloc (.cells (xs.map strV).toArray e)).cell? ⟨w.heap.size, j, none⟩ = some (.string ⟨(gL xs j).toArray⟩) := by
  intro j hj
  rw [cell_of_row _ _ _ _ _ _ (heap_alloc_new w _)]
  simp [gL, List.getD, hj, strV]
theorem join_lit (xs : List (List UInt8)) (c : UInt8) (w : World) (e : TypeId) (hN : xs.length ≤ 1000) (hb : ∀ x ∈ xs, x.length ≤ 10000000000) :
    Calls Tryz.prog 33 #[.slice (some ⟨w.heap.size, 0, none⟩) xs.length xs.length, .string ⟨#[c]⟩] (w.alloc (.cells (xs.map strV).toArray e)) fun ev w' => ev = .returned (.string ⟨(Lib.join xs [c]).toArray⟩) ∧ Q (w.alloc (.cells (xs.map strV).toArray e)) w' := by
  have hjl := join_len c 10000000000 xs hb
  have hjb : (Lib.join xs [c]).length ≤ 140737488355328 := Nat.le_trans hjl (by have := Nat.mul_le_mul_right (10000000000 + 1) hN; omega)
  have hxs : (xs.map fun l => (⟨l.toArray⟩ : ByteArray)).map (·.data.toList) = xs := by rw [List.map_map]; simp [Function.comp_def]
  have hxl : (xs.map fun l => (⟨l.toArray⟩ : ByteArray)).length = xs.length := List.length_map _
  have hlt : w.heap.size < (w.alloc (.cells (xs.map strV).toArray e)).heap.size := by simp
  have := Tryz.strings_Join w.heap.size 0 xs.length (xs.map fun l => (⟨l.toArray⟩ : ByteArray)) ⟨#[c]⟩ (w.alloc (.cells (xs.map strV).toArray e)) (fun j x hx => by
    have hj : j < xs.length := by have := (List.getElem?_eq_some_iff.1 hx).1; rwa [hxl] at this
    rw [Nat.zero_add, lit_cells xs w e j hj]
    rw [List.getElem?_map, List.getElem?_eq_getElem hj] at hx
    injection hx with hx
    subst hx; simp [gL, List.getD, hj]) hlt (by rw [hxl]; omega) (by rw [hxl]; exact Nat.le_refl _) (by rw [hxs]; exact hjb)
  rw [hxl, hxs] at this
  exact this
def methodL : List UInt8 := [65, 87, 83, 52, 45, 72, 77, 65, 67, 45, 83, 72, 65, 50, 53, 54]
def textL (st rg c : List UInt8) : List UInt8 := Lib.join [methodL, st, scopeL st rg, hexL (sha c)] [10]
theorem scopeL_len (st rg : List UInt8) : (scopeL st rg).length ≤ st.length + rg.length + 17 := by
  unfold scopeL awsL; simp; omega
theorem hexsha_len (c : List UInt8) : (hexL (sha c)).length = 64 := by rw [hexL_length, sha_length]
set_option maxHeartbeats 1000000 in
theorem Text_any (st rg c : List UInt8) (w : World) (h1 : st.length ≤ 100000000) (h2 : rg.length ≤ 100000000) (h3 : c.length ≤ 140737488355328) : Calls Tryz.prog 16 #[.string ⟨st.toArray⟩, .string ⟨rg.toArray⟩, .string ⟨c.toArray⟩] w fun e w' => e = .returned (.string ⟨(textL st rg c).toArray⟩) ∧ Q w w' := by
  have hsc := scopeL_len st rg
  have HSc := Lib.hid (fun W => scope_any st rg W h1 h2)
  have HSh := Lib.hid (fun W => Sum256_any c W (by omega))
  have hhl : (sha c).length ≤ 140737488355328 := by rw [sha_length]; omega
  have HHx := Lib.hid (fun W => Hex_any (sha c) W hhl)
  have hxl := hexsha_len c
  have HT : Hid (textL st rg c = Lib.join [methodL, st, scopeL st rg, hexL (sha c)] [10]) := Lib.hid rfl
  generalize hexL (sha c) = X at HHx hxl HT
  generalize sha c = S at HHx HSh hhl
  generalize scopeL st rg = SC at HSc hsc HT
  have HJ := Lib.hid (fun (W : World) (e : TypeId) => join_lit [methodL, st, SC, X] 10 W e (by simp) (by
    intro x hx
    simp only [List.mem_cons, List.not_mem_nil, or_false] at hx
    rcases hx with rfl | rfl | rfl | rfl
    · simp [methodL]
    · omega
    · omega
    · omega))
  rw [← HT.out] at HJ
  generalize textL st rg c = R at HJ HT
  clear HT hsc hhl hxl
  go_enter Tryz.func16, Tryz.ntmps16
  go_wp2_with fail
  refine (HSc.out _).mono ?_
  rintro e w1 ⟨rfl, rfl⟩
  go_wp2_with fail
  refine (HSh.out _).mono ?_
  rintro e w2 ⟨rfl, hq2⟩
  go_wp2_with fail
  refine (HHx.out _).mono ?_
  rintro e w3 ⟨rfl, hq3⟩
  have HQ3 := Lib.hid (hq2.trans hq3)
  clear hq2 hq3
  go_wp2_with fail
  refine (HJ.out w3 _).mono ?_
  rintro e w4 ⟨rfl, hq4⟩
  have HQ4 := Lib.hid (HQ3.out.trans (((Q.refl w3).alloc _).trans hq4))
  clear hq4
  go_wp2_with fail
  go_ret
  exact ⟨rfl, HQ4.out⟩
def partsK (day rg : List UInt8) : List (List UInt8) := [day, rg, [115, 51], [97, 119, 115, 52, 95, 114, 101, 113, 117, 101, 115, 116]]
def keyN (secret day rg : List UInt8) : Nat → List UInt8
  | 0 => [65, 87, 83, 52] ++ secret
  | i + 1 => mac (keyN secret day rg i) (gL (partsK day rg) i)
def keyL (secret day rg : List UInt8) : List UInt8 := keyN secret day rg 4
theorem mac_length (k s : List UInt8) : (mac k s).length = 32 := by unfold mac; rw [sha_length]
theorem keyN_len (secret day rg : List UInt8) (i : Nat) (h : secret.length ≤ 100000000) : (keyN secret day rg i).length ≤ 100000004 := by
  rcases i with _ | i
  · unfold keyN; simp; omega
  · unfold keyN; rw [mac_length]; omega
set_option maxHeartbeats 1000000 in
theorem Key_any (secret day rg : List UInt8) (w : World) (h1 : secret.length ≤ 100000000) (h2 : day.length ≤ 100000000) (h3 : rg.length ≤ 100000000) : Calls Tryz.prog 18 #[.string ⟨secret.toArray⟩, .string ⟨day.toArray⟩, .string ⟨rg.toArray⟩] w fun e w' => e = .returned (.string ⟨(keyL secret day rg).toArray⟩) ∧ Q w w' := by
  have HC := Lib.hid (fun e => lit_cells (partsK day rg) w e)
  have HM : Hid (∀ i W, i < 4 → Calls Tryz.prog 46 #[.string ⟨(keyN secret day rg i).toArray⟩, .string ⟨(gL (partsK day rg) i).toArray⟩] W fun e w' => e = .returned (.string ⟨(keyN secret day rg (i + 1)).toArray⟩) ∧ Q W w') := Lib.hid (fun i W hi => by
    refine MAC_any _ _ W ?_ (by have := keyN_len secret day rg i h1; omega)
    match i, hi with
    | 0, _ => show day.length ≤ _; omega
    | 1, _ => show rg.length ≤ _; omega
    | 2, _ => show 2 ≤ _; omega
    | 3, _ => show 12 ≤ _; omega)
  have HK0 : Hid ((65 : UInt8) :: 87 :: 83 :: 52 :: secret = keyN secret day rg 0) := Lib.hid rfl
  have HK4 : Hid (keyL secret day rg = keyN secret day rg 4) := Lib.hid rfl
  generalize keyL secret day rg = KL at HK4
  generalize hkn : keyN secret day rg = KN at HM HK0 HK4
  clear hkn
  have HP : Hid ((partsK day rg).map strV = [.string ⟨day.toArray⟩, .string ⟨rg.toArray⟩, .string ⟨#[115, 51]⟩, .string ⟨#[97, 119, 115, 52, 95, 114, 101, 113, 117, 101, 115, 116]⟩]) := Lib.hid rfl
  have hp4 : (partsK day rg).length = 4 := rfl
  rw [hp4, HP.out] at HC
  generalize partsK day rg = PK at HC HM HP hp4
  clear HP hp4
  go_enter Tryz.func18, Tryz.ntmps18
  go_wp2_with fail
  obtain ⟨N, hN⟩ : ∃ N, w.heap.size = N := ⟨_, rfl⟩
  obtain ⟨W, hW⟩ : ∃ W, w.alloc (.cells #[.string ⟨day.toArray⟩, .string ⟨rg.toArray⟩, .string ⟨#[115, 51]⟩, .string ⟨#[97, 119, 115, 52, 95, 114, 101, 113, 117, 101, 115, 116]⟩] 9) = W := ⟨_, rfl⟩
  have HCW : Hid (∀ j, j < 4 → W.cell? ⟨N, j, none⟩ = some (.string ⟨(gL PK j).toArray⟩)) := Lib.hid (fun j hj => by rw [← hW, ← hN]; exact HC.out 9 j hj)
  have HQW : Hid (Q w W) := Lib.hid (by rw [← hW]; exact (Q.refl w).alloc _)
  rw [hN, hW]
  have HK0' := HK0.out
  clear hN hW HC
  go_loopw [7, 16] (fun kv i wr => ∃ j : Nat, j ≤ 4 ∧ kv = .string ⟨(KN j).toArray⟩ ∧ i = .int .i64 (j : Int) ∧ Hid (Q W wr)) (fun _ i _ => 4 - (intOf i).toNat)
  case atStart => exact ⟨0, by omega, by rw [HK0'], rfl, Lib.hid (Q.refl _)⟩
  case round =>
    clear HK0'
    obtain ⟨j, hj, rfl, rfl, HQ⟩ := hrel
    by_cases hlt : j < 4
    · have g1 : decide ((j : Int) < 4) = true := by simp; omega
      have cx := HQ.out.cell (HCW.out j hlt)
      go_wp2_with fail
      refine (HM.out j _ hlt).mono ?_
      rintro e w2 ⟨rfl, hq2⟩
      have HQ2 := Lib.hid (HQ.out.trans hq2)
      clear hq2 cx
      go_wp2_with fail
      go_roundw
      case rel => exact ⟨j + 1, by omega, rfl, by go_num, HQ2⟩
      case measure => simp [intOf]; omega
    · obtain rfl : j = 4 := by omega
      rw [show ((4 : Nat) : Int) = 4 from rfl, ← HK4.out]
      clear hlt
      go_wp2_with fail
      go_ret
      exact ⟨rfl, HQW.out.trans HQ.out⟩
def sigL (secret st rg c : List UInt8) : List UInt8 := hexL (mac (keyL secret (st.take 8) rg) (textL st rg c))
theorem textL_len (st rg c : List UInt8) (h1 : st.length ≤ 100000000) (h2 : rg.length ≤ 100000000) : (textL st rg c).length ≤ 1000000000 := by
  have hsc := scopeL_len st rg
  have hxl := hexsha_len c
  have := sum_len_join 10 [methodL, st, scopeL st rg, hexL (sha c)]
  unfold textL
  simp only [sumU, List.map_cons, List.map_nil, List.sum_cons, List.sum_nil] at this
  have hm : methodL.length = 16 := rfl
  omega
set_option maxHeartbeats 1000000 in
theorem signature_any (secret st rg c : List UInt8) (w : World) (h0 : secret.length ≤ 100000000) (h1 : st.length ≤ 100000000) (h2 : rg.length ≤ 100000000) (h3 : c.length ≤ 140737488355328) :
    Calls Tryz.prog 34 #[.string ⟨secret.toArray⟩, .string ⟨st.toArray⟩, .string ⟨rg.toArray⟩, .string ⟨c.toArray⟩] w fun e w' => e = .returned (.string ⟨(sigL secret st rg c).toArray⟩) ∧ Q w w' := by
  obtain ⟨m, hm⟩ : ∃ m : Nat, min (8 : Int) (st.length : Int) = (m : Int) := ⟨min 8 st.length, by omega⟩
  have hms : m ≤ st.length := by omega
  have ht : sub st 0 m = st.take 8 := by
    rw [sub_zero0]
    rcases Nat.lt_or_ge st.length 8 with h | h
    · rw [List.take_of_length_le (by omega), List.take_of_length_le (by omega)]
    · rw [show m = 8 by omega]
  have hsl := length_sub st 0 m
  have hsl2 : (sub st 0 m).length ≤ 100000000 := by omega
  have HK := Lib.hid (fun W => Key_any secret (sub st 0 m) rg W h0 hsl2 h2)
  have HT := Lib.hid (fun W => Text_any st rg c W h1 h2 h3)
  have htl := textL_len st rg c h1 h2
  have hkl : (keyL secret (sub st 0 m) rg).length = 32 := by unfold keyL keyN; exact mac_length _ _
  have HM := Lib.hid (fun W => MAC_any (keyL secret (sub st 0 m) rg) (textL st rg c) W (by omega) (by omega))
  have hml := mac_length (keyL secret (sub st 0 m) rg) (textL st rg c)
  have HH := Lib.hid (fun W => Hex_any (mac (keyL secret (sub st 0 m) rg) (textL st rg c)) W (by omega))
  have HR : Hid (sigL secret st rg c = hexL (mac (keyL secret (sub st 0 m) rg) (textL st rg c))) := Lib.hid (by unfold sigL; rw [ht])
  generalize mac (keyL secret (sub st 0 m) rg) (textL st rg c) = M at HM HH HR hml
  generalize keyL secret (sub st 0 m) rg = K at HK HM hkl
  generalize textL st rg c = TX at HT HM htl
  clear ht hsl hkl hml htl
  go_enter Tryz.func34, Tryz.ntmps34
  go_wp2_with fail
  refine (HK.out _).mono ?_
  rintro e w2 ⟨rfl, hq2⟩
  go_wp2_with fail
  refine (HT.out _).mono ?_
  rintro e w3 ⟨rfl, hq3⟩
  go_wp2_with fail
  refine (HM.out _).mono ?_
  rintro e w4 ⟨rfl, hq4⟩
  go_wp2_with fail
  refine (HH.out _).mono ?_
  rintro e w5 ⟨rfl, hq5⟩
  have HQ5 := Lib.hid (((hq2.trans hq3).trans hq4).trans hq5)
  clear hq2 hq3 hq4 hq5
  go_wp2_with fail
  go_ret
  rw [HR.out]
  exact ⟨rfl, HQ5.out⟩
end Go.Proofs.YtmmoenbmgcplkaaGreatDoor
set_option linter.unusedVariables false
set_option linter.unusedSimpArgs false
namespace Go.Proofs.YtmmoenbmgcplkaaGreatDoor
open Go Go.RowKit
def midS (l : List UInt8) (k : Nat) : List UInt8 := smL (l.take k) ++ l.drop k
theorem midS_len (l : List UInt8) (k : Nat) : (midS l k).length = l.length := by unfold midS smL; simp; omega
theorem midS_at (l : List UInt8) (k : Nat) (h : k < l.length) : gB (midS l k) k = gB l k := by
  have hl : (smL (l.take k)).length = k := by unfold smL; simp; omega
  unfold midS gB
  rw [List.getD_eq_getElem?_getD, List.getElem?_append_right (by omega), hl]
  simp [List.getD]
theorem midS_set (l : List UInt8) (k : Nat) (h : k < l.length) : (midS l k).set k (smB (gB l k)) = midS l (k + 1) := by
  have hl : (smL (l.take k)).length = k := by unfold smL; simp; omega
  unfold midS
  rw [List.set_append_right _ _ (by omega), hl, Nat.sub_self, drop_consB l k h, take_snocB l k h]
  unfold smL; simp
theorem midS_same (l : List UInt8) (k : Nat) (h : k < l.length) (hs : smB (gB l k) = gB l k) : midS l k = midS l (k + 1) := by
  rw [← midS_set l k h, hs, ← midS_at l k h]
  rw [show gB (midS l k) k = (midS l k)[k]'(by rw [midS_len]; exact h) by simp [gB, List.getD, midS_len, h]]
  simp
set_option maxRecDepth 100000 in
set_option maxHeartbeats 1000000 in
theorem small_any (l : List UInt8) (w : World) (hl : l.length ≤ 100000000) : Calls Tryz.prog 119 #[.string ⟨l.toArray⟩] w fun e w' => e = .returned (.string ⟨(smL l).toArray⟩) ∧ Q w w' := by
  obtain ⟨v, w1, hcv, hown, hq1, cap, hv⟩ := bytes_of l w (by omega)
  rw [hv] at hcv hown
  have h0 : midS l 0 = l := by unfold midS smL; simp
  have HOW : Hid (OwnB w w1 (.slice (some ⟨w.heap.size, 0, none⟩) l.length cap) (midS l 0)) := Lib.hid (by rw [h0]; exact hown)
  have HQ1 := Lib.hid hq1
  clear hown hq1 hv h0
  obtain ⟨N, hN⟩ : ∃ N, w.heap.size = N := ⟨_, rfl⟩
  rw [hN] at hcv HOW
  have HN := Lib.hid hN
  clear hN
  go_enter Tryz.func119, Tryz.ntmps119
  go_wp2_with fail
  clear hcv
  go_loopw [10] (fun i wr => ∃ k : Nat, k ≤ l.length ∧ i = .int .i64 (k : Int) ∧ Hid (OwnB w wr (.slice (some ⟨N, 0, none⟩) l.length cap) (midS l k)) ∧ Hid (Q w wr)) (fun i _ => l.length - (intOf i).toNat)
  case atStart => exact ⟨0, by omega, rfl, HOW, HQ1⟩
  case round =>
    clear HOW HQ1
    obtain ⟨k, hk, rfl, HO, HQ⟩ := hrel
    by_cases hlt : k < l.length
    · have g1 : decide (k < l.length) = true := by simpa using hlt
      obtain ⟨g, cc, hv, _, _, _, hcell⟩ := HO.out.pos (by rw [midS_len]; omega)
      rw [midS_len] at hv
      cases hv
      have hce := hcell k (by rw [midS_len]; exact hlt)
      rw [midS_at l k hlt] at hce
      obtain ⟨cx, fx⟩ := hce
      have HSET := Lib.hid (midS_set l k hlt)
      have HSAME := Lib.hid (midS_same l k hlt)
      clear hcell
      obtain ⟨b, hgb⟩ : ∃ b, gB l k = b := ⟨_, rfl⟩
      rw [hgb] at cx HSET HSAME
      have hsn := smB_nat b
      have hb8 := b.toNat_lt
      have hcs : (¬ 65 ≤ (b.toNat : Int)) ∨ (65 ≤ (b.toNat : Int) ∧ ¬ (b.toNat : Int) ≤ 90) ∨ (65 ≤ (b.toNat : Int) ∧ (b.toNat : Int) ≤ 90) := by omega
      rename World => wa
      rcases hcs with h1 | ⟨h1, h2⟩ | ⟨h1, h2⟩
      · have HM : Hid (midS l k = midS l (k + 1)) := Lib.hid (HSAME.out (UInt8.toNat_inj.1 (by rw [hsn, if_neg (by omega)])))
        clear hsn HSET HSAME
        go_wp2_with fail
        go_roundw
        case rel => exact ⟨k + 1, by omega, by go_num, by rw [← HM.out]; exact HO, HQ⟩
        case measure => simp [intOf]; omega
      · have HM : Hid (midS l k = midS l (k + 1)) := Lib.hid (HSAME.out (UInt8.toNat_inj.1 (by rw [hsn, if_neg (by omega)])))
        have d90 : decide ((b.toNat : Int) ≤ 90) = false := by simp; omega
        clear hsn HSET HSAME
        go_wp2_with fail
        go_roundw
        case rel => exact ⟨k + 1, by omega, by go_num, by rw [← HM.out]; exact HO, HQ⟩
        case measure => simp [intOf]; omega
      · have d90 : decide ((b.toNat : Int) ≤ 90) = true := by simp; omega
        have hsm : ((smB b).toNat : Int) = (b.toNat : Int) + 32 := by rw [hsn, if_pos (by omega)]; omega
        have ho := HO.out.set k (smB b)
        rw [HSET.out, hsm] at ho
        have HO2 := Lib.hid ho
        have HQ2 : Hid (Q w (wa.setCell ⟨N, k, none⟩ (.int .u8 ((b.toNat : Int) + 32)))) := Lib.hid (HQ.out.setNew (by rw [HN.out]; exact Nat.le_refl _) _)
        clear hsn hsm ho HSET HSAME
        go_wp2_with fail
        go_roundw
        case rel => exact ⟨k + 1, by omega, by go_num, HO2, HQ2⟩
        case measure => simp [intOf]; omega
    · obtain rfl : k = l.length := by omega
      have he : midS l l.length = smL l := by unfold midS; simp
      have ho := HO.out
      rw [he] at ho
      have hcv := conv_b ho
      have hsl : (smL l).length = l.length := by unfold smL; simp
      clear he ho hlt
      go_wp2_with fail
      go_ret
      exact ⟨rfl, HQ.out⟩
end Go.Proofs.YtmmoenbmgcplkaaGreatDoor
set_option linter.unusedVariables false
set_option linter.unusedSimpArgs false
namespace Go.Proofs.YtmmoenbmgcplkaaGreatDoor
open Go Go.RowKit
theorem cellsU_one' (ps : List PairD) : ∀ u ∈ cellsU ps, u.oneCell' = true := by
  intro u hu
  obtain ⟨p, _, hp⟩ := List.mem_flatMap.1 hu
  simp only [pairL, List.mem_cons, List.not_mem_nil, or_false] at hp
  rcases hp with rfl | rfl <;> rfl
theorem PairsAt.cells {w : World} {g off n : Nat} {ps : List PairD} (h : PairsAt w (some ⟨g, off, none⟩) n ps) : ∀ j u, (cellsU ps)[j]? = some u → w.cell? (Addr.add ⟨g, off, none⟩ j) = some u := by
  intro j u hu
  have hj : j < ps.length * 2 := by have := (List.getElem?_eq_some_iff.1 hu).1; rwa [cellsU_len] at this
  obtain ⟨g', off', e, hg, hc⟩ := h.2 (by rw [h.1]; omega)
  cases e
  have e1 : (Addr.add ⟨g, off, none⟩ j) = ⟨g, off + j, none⟩ := by unfold Addr.add; split <;> simp_all
  have hq : j / 2 < ps.length := by omega
  have e2 := cellsU_at ps (j / 2) hq (j % 2) (by omega)
  rw [show j / 2 * 2 + j % 2 = j by omega, hu] at e2
  rw [e1, show off + j = off + j / 2 * 2 + j % 2 by omega]
  exact hc (j / 2) hq (j % 2) u e2.symm
theorem PairsAt.take {w : World} {A : Option Addr} {n : Nat} {ps : List PairD} (h : PairsAt w A n ps) (k : Nat) (hk : k ≤ n) : PairsAt w A k (ps.take k) := by
  refine ⟨by rw [List.length_take, ← h.1]; omega, fun h0 => ?_⟩
  obtain ⟨g, off, e, hg, hc⟩ := h.2 (by omega)
  exact ⟨g, off, e, hg, fun j hj i v hv => hc j (by rw [List.length_take] at hj; omega) i v (by rw [List.getElem_take] at hv; exact hv)⟩
theorem PairsAt.drop {w : World} {g off n : Nat} {ps : List PairD} (h : PairsAt w (some ⟨g, off, none⟩) n ps) (k : Nat) (hk : k ≤ n) : PairsAt w (some ⟨g, off + k * 2, none⟩) (n - k) (ps.drop k) := by
  refine ⟨by rw [List.length_drop, ← h.1], fun h0 => ?_⟩
  obtain ⟨g', off', e, hg, hc⟩ := h.2 (by omega)
  cases e
  refine ⟨g, off + k * 2, rfl, hg, fun j hj i v hv => ?_⟩
  rw [List.length_drop] at hj
  have := hc (k + j) (by omega) i v (by rw [List.getElem_drop] at hv; exact hv)
  rwa [show off + (k + j) * 2 + i = off + k * 2 + j * 2 + i by omega] at this
theorem made_p (n : Nat) : (madeCells (Value.agg #[.string ⟨#[]⟩, .string ⟨#[]⟩]).cells (n * 2)).toList = cellsU (List.replicate n default) := by
  apply List.ext_getElem?
  intro j
  by_cases hj : j < n * 2
  · have hq : j / 2 < (List.replicate n (default : PairD)).length := by simp; omega
    have e2 := cellsU_at (List.replicate n (default : PairD)) (j / 2) hq (j % 2) (by omega)
    rw [show j / 2 * 2 + j % 2 = j by omega] at e2
    rw [e2, List.getElem_replicate]
    have h5 : j % 2 < 2 := by omega
    simp only [madeCells, Value.cells, Array.toList_map, List.getElem?_map]
    rw [show (Array.range (n * 2)).toList[j]? = some j by simp [hj]]
    simp only [Option.map_some]
    have : ∀ m, m < 2 → some ((#[Value.string ⟨#[]⟩, .string ⟨#[]⟩] : Array Value)[m]!) = (pairL (default : PairD))[m]? := by
      intro m hm
      match m, hm with
      | 0, _ => rfl
      | 1, _ => rfl
    exact this _ h5
  · rw [List.getElem?_eq_none (by simp [madeCells]; omega), List.getElem?_eq_none (by rw [cellsU_len]; simp; omega)]
theorem cellsU_take (ps : List PairD) (k : Nat) : (cellsU ps).take (k * 2) = cellsU (ps.take k) := by
  rcases Nat.lt_or_ge ps.length k with h | h
  · rw [List.take_of_length_le (by rw [cellsU_len]; omega), List.take_of_length_le (by omega)]
  · have e : cellsU ps = cellsU (ps.take k) ++ cellsU (ps.drop k) := by rw [← cellsU_app, List.take_append_drop]
    have hl : (cellsU (ps.take k)).length = k * 2 := by rw [cellsU_len, List.length_take]; omega
    rw [e, ← hl, List.take_left]
theorem cellsU_drop (ps : List PairD) (k : Nat) : (cellsU ps).drop (k * 2) = cellsU (ps.drop k) := by
  rcases Nat.lt_or_ge ps.length k with h | h
  · rw [List.drop_eq_nil_of_le (by rw [cellsU_len]; omega), List.drop_eq_nil_of_le (by omega)]; rfl
  · have e : cellsU ps = cellsU (ps.take k) ++ cellsU (ps.drop k) := by rw [← cellsU_app, List.take_append_drop]
    have hl : (cellsU (ps.take k)).length = k * 2 := by rw [cellsU_len, List.length_take]; omega
    rw [e, ← hl, List.drop_left]
theorem make_pairs (w : World) (l c : Nat) (hlc : l ≤ c) (hb : (32 : Int) * c ≤ 281474976710656) :
    ∃ w', (Instr.makeSlice 22 (.int .i64 (l : Int)) (.int .i64 (c : Int))).run Tryz.prog w = .ok (.slice (some ⟨w.heap.size, 0, none⟩) l c) w' ∧ OwnU w w' (.slice (some ⟨w.heap.size, 0, none⟩) l c) (List.replicate l default) ∧ Q w w' := by
  obtain ⟨i, hi, hz, hsz, hby⟩ := info_parts info_pair
  have h := run_make (P := Tryz.prog) w 22 37 i _ Tryz.underlying22 hi hz .i64 .i64 (l : Int) (c : Int) (by omega) (by omega) (by rw [hby]; exact hb) (by omega)
  rw [hsz, Int.toNat_natCast, Int.toNat_natCast] at h
  refine ⟨_, h, ⟨by rw [cellsU_len], .inr ⟨w.heap.size, c, _, by rw [List.length_replicate], Nat.le_refl _, (MapKept.heap_alloc w _).1, by rw [List.length_replicate]; exact hlc, by unfold maxLen; omega, by rw [size_madeCells], ?_⟩⟩, (Q.refl w).alloc _⟩
  rw [made_p, List.length_replicate, cellsU_take, List.take_replicate, Nat.min_eq_left hlc]
theorem copy_pairs (w0 w : World) (g dLen cap n sCap : Nat) (A : Option Addr) (qs ps : List PairD) (h : OwnU w0 w (.slice (some ⟨g, 0, none⟩) dLen cap) qs) (hd : qs.length = dLen) (hp : PairsAt w A n ps) (ty : TypeId) :
    ∃ w', (Builtin.copy_ #[22, 22] ty #[.slice (some ⟨g, 0, none⟩) dLen cap, .slice A n sCap]).run Tryz.prog w = .ok (.int .i64 (min n dLen : Nat)) w' ∧ OwnU w0 w' (.slice (some ⟨g, 0, none⟩) dLen cap) (ps.take dLen ++ qs.drop n) ∧ w.grownBy w' (some g) := by
  have hu := Tryz.underlying22
  obtain ⟨i, hi, hz, hsz, hby⟩ := info_parts info_pair
  rcases h.2 with ⟨h1, _⟩ | ⟨g', cap', cur, hv, hb, hh, hn, hm, hcs, ht⟩
  · cases h1
  obtain ⟨rfl, rfl⟩ : g' = g ∧ cap' = cap := by cases hv; exact ⟨rfl, rfl⟩
  obtain ⟨m, hmm⟩ : ∃ m, m = min n dLen := ⟨_, rfl⟩
  have hmin : Nat.min n dLen = m := hmm.symm
  have hpn := hp.1
  have e1 : ps.take dLen = ps.take m := by
    rcases Nat.le_total n dLen with hl | hl
    · rw [List.take_of_length_le (by omega), List.take_of_length_le (by omega)]
    · rw [show m = dLen by omega]
  have e2 : qs.drop n = qs.drop m := by
    rcases Nat.le_total n dLen with hl | hl
    · rw [show m = n by omega]
    · rw [List.drop_eq_nil_of_le (by omega), List.drop_eq_nil_of_le (by omega)]
  have hcl : (cellsU (ps.take m)).length = m * 2 := by rw [cellsU_len, List.length_take]; omega
  have hown : ∀ w' : World, w'.heap[g']? = some (.cells ((cellsU (ps.take m)) ++ cur.toList.drop (m * 2)).toArray 37 (0, 0)) → OwnU w0 w' (.slice (some ⟨g', 0, none⟩) dLen cap') (ps.take dLen ++ qs.drop n) := by
    intro w' hw
    rw [e1, e2]
    have hlen : (ps.take m ++ qs.drop m).length = dLen := by rw [List.length_append, List.length_take, List.length_drop]; omega
    refine ⟨by rw [cellsU_len], .inr ⟨g', cap', _, by rw [hlen], hb, hw, by rw [hlen]; omega, hm, ?_, ?_⟩⟩
    · simp only [List.size_toArray, List.length_append, hcl, List.length_drop, Array.length_toList]; omega
    · rw [hlen, cellsU_app, ← cellsU_drop, ← ht, List.take_append, List.take_of_length_le (by omega), hcl, hd, List.drop_take]
  refine ⟨w.setRow g' ((cellsU (ps.take m)) ++ cur.toList.drop (m * 2)).toArray, ?_, hown _ (setRow_heap w g' cur _ _ _ hh), ?_⟩
  · rw [← hmm]
    by_cases h0 : m = 0
    · have e3 : ((cellsU (ps.take m)) ++ cur.toList.drop (m * 2)).toArray = cur := by subst h0; simp [cellsU]
      rw [e3, setRow_self w g' cur _ _ hh]
      rw [h0] at hmin ⊢
      cases A with
      | none => simp [Builtin.copy_, run_underlying hu, Builtin.lenOf, Builtin.firstCells, sizeOf, typeInfo, hi, storeCells, hmin, goInt]
      | some a => simp [Builtin.copy_, run_underlying hu, Builtin.lenOf, Builtin.firstCells, sizeOf, typeInfo, hi, storeCells, hmin, goInt, loadCells, loadCellsFrom]
    · obtain ⟨g2, off2, rfl, _⟩ := hp.2 (by omega)
      have hc := (hp.take m (by omega)).cells
      have hl := run_loadCells_list (P := Tryz.prog) w ⟨g2, off2, none⟩ (cellsU (ps.take m)) hc
      have hst := run_storeCells_at Tryz.prog g' 0 37 (cellsU (ps.take m)) 0 cur w hh (by rw [hcl]; omega) (cellsU_one' _)
      rw [hcl] at hl hst
      simp only [Nat.zero_add, List.take_zero, List.nil_append] at hst
      simp [Builtin.copy_, run_underlying hu, Builtin.lenOf, Builtin.firstCells, sizeOf, typeInfo, hi, hsz, hmin, hl, hst, goInt]
  · exact ⟨rfl, rfl, rfl, by simp [World.setRow], fun k _ hk => setRow_other w g' k _ (fun e => hk (by rw [e]))⟩
theorem wpList_copy_u {ops : Array Oper} {rest : List Oper} {o : Oper} {a : Act} {R : Exit → Act → World → Prop} (hgd : o.guard = none) (s x : Operand)
    (ho : o.op = .call { callee := .builtin .copy, args := #[s, x], argTypes := #[22, 22] })
    (w0 W : World) (g dLen cap : Nat) (qs ps : List PairD) (A : Option Addr) (n c : Nat) (hs : a.eval s = .slice (some ⟨g, 0, none⟩) dLen cap) (hown : OwnU w0 W (.slice (some ⟨g, 0, none⟩) dLen cap) qs) (hd : qs.length = dLen) (hx : a.eval x = .slice A n c) (hp : PairsAt W A n ps) (hq : Q w0 W)
    (h : ∀ w', OwnU w0 w' (.slice (some ⟨g, 0, none⟩) dLen cap) (ps.take dLen ++ qs.drop n) → Q w0 w' → W.grownBy w' (some g) → wpList Tryz.prog ops R rest (a.put o.dst (.int .i64 (min n dLen : Nat))) w') : wpList Tryz.prog ops R (o :: rest) a W := by
  obtain ⟨w', hr, h2, h3⟩ := copy_pairs w0 W g dLen cap n c A qs ps hown hd hp o.type
  refine wpList_plain hgd fun K hK => ?_
  unfold Oper.wp execOp
  simp only [ho, resolve, invoke, builtin, Sem.run_bind, Sem.run_pure, Result.andThen_ok, List.map_toArray, List.map_cons, List.map_nil, hs, hx, hr]
  exact hK _ _ (h w' h2 (Below.grown hq h3 hq.size (fun k hk => by cases hk; exact (hown.block rfl).1)) h3)
end Go.Proofs.YtmmoenbmgcplkaaGreatDoor
