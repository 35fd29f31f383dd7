/- Texts of this proof, laid into one: LaL, LaM. -/
import Derived.Test.YtlhhiiemojhjdaaGreatDoorMt13
set_option linter.unusedVariables false
set_option linter.unusedSimpArgs false
namespace Go.Proofs.YtlhhiiemojhjdaaGreatDoor
open Go Go.RowKit
structure LstR (w : World) (jb : Nat) (k : Int) (vn vk : Value) (m n : Nat) (nc kc : List Value) : Prop where
  blk : w.heap[jb]? = some (.cells (jsonC k [] vn vk).toArray 46 (0, 0))
  nrow : w.ownsRow (jb + 1) 9 1 vn m nc
  krow : w.ownsRow (jb + 1) 46 4 vk n kc
theorem LstV.raw {w : World} {jb : Nat} {k : Int} {ns : List Txt} {acc : List JsonD} {vn vk : Value} {cells : List Value} (h : LstV w jb k ns acc vn vk cells) : LstR w jb k vn vk ns.length acc.length (ns.map strV) cells := ⟨h.blk, h.nrow, h.krow⟩
theorem LstR.ne {w : World} {jb : Nat} {k : Int} {vn vk : Value} {m n : Nat} {nc kc : List Value} (h : LstR w jb k vn vk m n nc kc) : ∀ i, vn.ownBlock = some i → vk.ownBlock ≠ some i := fun b' e1 e2 => by
  rcases h.nrow.2 with ⟨e, _⟩ | ⟨g1, c1, cur1, e, _, e3, _⟩
  · rw [e] at e1; cases e1
  · rcases h.krow.2 with ⟨f, _⟩ | ⟨g2, c2, cur2, f, _, f3, _⟩
    · rw [f] at e2; cases e2
    · rw [e] at e1; rw [f] at e2
      simp [Value.ownBlock] at e1 e2
      subst e1 e2
      rw [e3] at f3
      injection f3 with f3
      injection f3 with _ f3 _
      exact absurd f3 (by decide)
theorem LstR.nb {w : World} {jb : Nat} {k : Int} {vn vk : Value} {m n : Nat} {nc kc : List Value} (h : LstR w jb k vn vk m n nc kc) : ∀ i, vn.ownBlock = some i → jb + 1 ≤ i ∧ i < w.heap.size := fun i hi => ownsRow_base h.nrow hi
theorem LstR.kb {w : World} {jb : Nat} {k : Int} {vn vk : Value} {m n : Nat} {nc kc : List Value} (h : LstR w jb k vn vk m n nc kc) : ∀ i, vk.ownBlock = some i → jb + 1 ≤ i ∧ i < w.heap.size := fun i hi => ownsRow_base h.krow hi
theorem LstR.sl {w : World} {jb : Nat} {k : Int} {vn vk : Value} {m n : Nat} {nc kc : List Value} (h : LstR w jb k vn vk m n nc kc) : SlF vn ∧ SlF vk := by
  obtain ⟨A, c, h1, _⟩ := row_cells h.nrow h.nrow.1
  obtain ⟨A', c', h2, _⟩ := row_cells h.krow h.krow.1
  exact ⟨⟨_, _, _, h1⟩, _, _, _, h2⟩
theorem LstR.gx {w w' : World} {jb b : Nat} {k : Int} {vn vk : Value} {m n : Nat} {nc kc : List Value} (h : LstR w jb k vn vk m n nc kc) (hg : GX [b] w w') (hb : b < jb) : LstR w' jb k vn vk m n nc kc :=
  ⟨hg.heap (by simp; omega) h.blk, ownsRow_frame h.nrow (fun i e l => hg.block i l (by have := h.nb i e; simp; omega)), ownsRow_frame h.krow (fun i e l => hg.block i l (by have := h.kb i e; simp; omega))⟩
theorem LstR.mid {w1 w3 w4 : World} {jb : Nat} {k : Int} {vn vk v v' : Value} {m n n' size : Nat} {nc kc xs : List Value} {e : TypeId} (h : LstR w1 jb k vn vk m n nc kc) (hv : v = vn ∨ v = vk) (h3 : Q w1 w3) (hgrow : w3.grownBy w4 v.ownBlock) (hrow : w4.ownsRow (jb + 1) e size v' (n' + 1) xs) :
    (∃ g cap, v' = .slice (some ⟨g, 0, none⟩) (n' + 1) cap) ∧ w4.heap[jb]? = some (.cells (jsonC k [] vn vk).toArray 46 (0, 0)) ∧ w4.cell? ⟨jb, 2, none⟩ = some vn ∧ w4.cell? ⟨jb, 3, none⟩ = some vk ∧ w4.frozen? ⟨jb, 2, none⟩ = false ∧ w4.frozen? ⟨jb, 3, none⟩ = false := by
  have hlt := lt_of_heap h.blk
  have hs3 := h3.size
  have hne : v.ownBlock ≠ some jb := fun e => by
    rcases hv with rfl | rfl
    · have := (h.nb jb e).1; omega
    · have := (h.kb jb e).1; omega
  have hjb4 : w4.heap[jb]? = some (.cells (jsonC k [] vn vk).toArray 46 (0, 0)) := by
    rw [hgrow.block jb (by omega) (fun e => hne e.symm)]; exact h3.block h.blk
  refine ⟨?_, hjb4, by rw [cell_of_row _ _ _ _ _ _ hjb4]; rfl, by rw [cell_of_row _ _ _ _ _ _ hjb4]; rfl, frozen_of_row w4 jb 2 _ _ hjb4, frozen_of_row w4 jb 3 _ _ hjb4⟩
  rcases hrow.2 with ⟨_, h0⟩ | ⟨g, cap, cur, h, _⟩
  · omega
  · exact ⟨g, cap, h⟩
structure App (w1 w5 : World) (jb : Nat) (v v' : Value) : Prop where
  hf : ∀ i, i < w1.heap.size → i ≠ jb → v.ownBlock ≠ some i → w5.heap[i]? = w1.heap[i]?
  sz : w1.heap.size ≤ w5.heap.size
  ho : v'.ownBlock = v.ownBlock ∨ ∃ i, w1.heap.size ≤ i ∧ v'.ownBlock = some i
  gx : ∀ (b : Nat) (w0 : World), GX [b] w0 w1 → w0.heap.size ≤ jb → GX [b] w0 w5
theorem app_of {w1 w3 w4 : World} {jb x : Nat} {v v' : Value} (hb : ∀ i, v.ownBlock = some i → jb + 1 ≤ i) (h3 : Q w1 w3) (hgrow : w3.grownBy w4 v.ownBlock) (hob : v'.ownBlock = v.ownBlock ∨ v'.ownBlock = some w3.heap.size) : App w1 (w4.setCell ⟨jb, x, none⟩ v') jb v v' := by
  have hs3 := h3.size
  have hs4 := hgrow.size
  refine ⟨fun i hi hj hn => ?_, by simp; omega, ?_, fun b w0 hg h0 => ?_⟩
  · rw [heap_setCell_other w4 ⟨jb, x, none⟩ i v' hj, hgrow.block i (by omega) (fun e => hn e.symm)]; exact Below.block h3 i hi
  · rcases hob with h | h
    · exact .inl h
    · exact .inr ⟨_, hs3, h⟩
  · refine ((hg.trans (GX.q h3)).sub (GX.gbo hgrow) (fun i hi => ?_)).sub ((GX.refl [jb] w4).set (by simp) x v') (fun i hi => ?_)
    · have := hb i (by simpa using hi); right; omega
    · simp at hi; right; omega
theorem row_set {w : World} {jb x base : Nat} {e : TypeId} {size n : Nat} {v u : Value} {xs : List Value} (h : w.ownsRow (jb + 1) e size v n xs) : (w.setCell ⟨jb, x, none⟩ u).ownsRow (jb + 1) e size v n xs :=
  ownsRow_frame h (fun i h6 h7 => heap_setCell_other w ⟨jb, x, none⟩ i u (by
    intro e
    have e : i = jb := e
    subst e
    have := (ownsRow_base h h6).1; omega))
theorem LstR.name {w1 w3 w4 : World} {jb : Nat} {k : Int} {vn vk v' : Value} {m n : Nat} {nc kc nc' : List Value} (h : LstR w1 jb k vn vk m n nc kc) (h3 : Q w1 w3) (hgrow : w3.grownBy w4 vn.ownBlock) (hrow : w4.ownsRow (jb + 1) 9 1 v' (m + 1) nc') (hob : v'.ownBlock = vn.ownBlock ∨ v'.ownBlock = some w3.heap.size) :
    LstR (w4.setCell ⟨jb, 2, none⟩ v') jb k v' vk (m + 1) n nc' kc ∧ App w1 (w4.setCell ⟨jb, 2, none⟩ v') jb vn v' := by
  have ha : App w1 (w4.setCell ⟨jb, 2, none⟩ v') jb vn v' := app_of (fun i e => (h.nb i e).1) h3 hgrow hob
  refine ⟨⟨?_, row_set (base := 0) hrow, ownsRow_frame h.krow (fun i e l => ha.hf i l (by have := h.kb i e; omega) (fun e' => h.ne i e' e))⟩, ha⟩
  rw [heap_setCell_any w4 jb 2 _ _ _ _ (h.mid (.inl rfl) h3 hgrow hrow).2.1]; rfl
theorem LstR.kid {w1 w3 w4 : World} {jb : Nat} {k : Int} {vn vk v' : Value} {m n : Nat} {nc kc kc' : List Value} (h : LstR w1 jb k vn vk m n nc kc) (h3 : Q w1 w3) (hgrow : w3.grownBy w4 vk.ownBlock) (hrow : w4.ownsRow (jb + 1) 46 4 v' (n + 1) kc') (hob : v'.ownBlock = vk.ownBlock ∨ v'.ownBlock = some w3.heap.size) :
    LstR (w4.setCell ⟨jb, 3, none⟩ v') jb k vn v' m (n + 1) nc kc' ∧ App w1 (w4.setCell ⟨jb, 3, none⟩ v') jb vk v' := by
  have ha : App w1 (w4.setCell ⟨jb, 3, none⟩ v') jb vk v' := app_of (fun i e => (h.kb i e).1) h3 hgrow hob
  refine ⟨⟨?_, ownsRow_frame h.nrow (fun i e l => ha.hf i l (by have := h.nb i e; omega) (fun e' => h.ne i e e')), row_set (base := 0) hrow⟩, ha⟩
  rw [heap_setCell_any w4 jb 3 _ _ _ _ (h.mid (.inr rfl) h3 hgrow hrow).2.1]; rfl
theorem pair_laid {W w1 w2 w5 w6 w9 : World} {jb b : Nat} {k : Int} {ns : List Txt} {acc : List JsonD} {vn vk vn' vk' un uk : Value} {cells : List Value} {t : Txt} {v : JsonD} (hL : LstV W jb k ns acc vn vk cells) (h1 : GX [b] W w1) (hb : b < jb) (hv : JO w1 v W.heap.size w1.heap.size un uk)
    (hq2 : Q w1 w2) (ha : App w2 w5 jb vn vn') (hq6 : Q w5 w6) (hc : App w6 w9 jb vk vk') (hR : LstR w9 jb k vn' vk' (ns.length + 1) (acc.length + 1) (ns.map strV ++ [strV t]) (cells ++ cellJ v un uk)) : LstV w9 jb k (ns ++ [t]) (acc ++ [v]) vn' vk' (cells ++ cellJ v un uk) := by
  have hR0 := hL.raw
  have hlt := hL.lt
  have s1 := h1.size
  have s2 := hq2.size
  have s5 := ha.sz
  have s6 := hq6.size
  have s9 := hc.sz
  have hfin : ∀ i, i < w1.heap.size → i ≠ jb → vn.ownBlock ≠ some i → vk.ownBlock ≠ some i → w9.heap[i]? = w1.heap[i]? := fun i e1 e2 e3 e4 => by
    rw [hc.hf i (by omega) e2 e4, Below.block hq6 i (by omega), ha.hf i (by omega) e2 e3]; exact Below.block hq2 i e1
  have hX : ∀ i, (vn'.ownBlock = some i ∨ vk'.ownBlock = some i) → (vn.ownBlock = some i ∨ vk.ownBlock = some i) ∨ i < jb + 1 ∨ w1.heap.size ≤ i := fun i e => by
    rcases e with e | e
    · rcases ha.ho with ho | ⟨j, hj, ho⟩
      · rw [ho] at e; exact .inl (.inl e)
      · rw [ho] at e; injection e with e; right; right; omega
    · rcases hc.ho with ho | ⟨j, hj, ho⟩
      · rw [ho] at e; exact .inl (.inr e)
      · rw [ho] at e; injection e with e; right; right; omega
  have hk1 : JOK w1 (fun b => vn.ownBlock = some b ∨ vk.ownBlock = some b) acc (jb + 1) W.heap.size cells := JOK.frame _ acc _ _ _ (fun b' e1 e2 e3 => h1.block b' e3 (by simp; omega)) hL.kids
  have hk9 : JOK w9 (fun b => vn.ownBlock = some b ∨ vk.ownBlock = some b) acc (jb + 1) W.heap.size cells := JOK.frameX (fun b' e1 e2 hx e3 => hfin b' e3 (by omega) (fun e => hx (.inl e)) (fun e => hx (.inr e))) hk1
  have hv9 : JO w9 v W.heap.size w1.heap.size un uk := JO.frame v _ _ un uk (fun b' e1 e2 e3 => hfin b' e3 (by omega) (fun e => by have := hR0.nb b' e; omega) (fun e => by have := hR0.kb b' e; omega)) hv
  refine ⟨hR.blk, by rw [List.length_append, List.map_append]; exact hR.nrow, by rw [List.length_append]; exact hR.krow, ?_⟩
  refine JOK.snoc hv9 (by omega) (fun b' e => ?_) (hk9.widen (Nat.le_refl _) (Nat.le_refl _) (fun b' e => by
    rcases hX b' e with h | h | h
    · exact .inl h
    · exact .inr (.inl h)
    · right; right; omega)) (by omega)
  rcases hX b' e with h | h | h
  · left
    rcases h with h | h
    · exact (hR0.nb b' h).2
    · exact (hR0.kb b' h).2
  · left; omega
  · right; omega
end Go.Proofs.YtlhhiiemojhjdaaGreatDoor
set_option linter.unusedVariables false
set_option linter.unusedSimpArgs false
namespace Go.Proofs.YtlhhiiemojhjdaaGreatDoor
open Go Go.RowKit
theorem App.low {w1 w5 : World} {jb : Nat} {v v' : Value} (h : App w1 w5 jb v v') (hb : ∀ i, v.ownBlock = some i → jb + 1 ≤ i) {i : Nat} (hi : i < jb) (hs : i < w1.heap.size) : w5.heap[i]? = w1.heap[i]? :=
  h.hf i hs (by omega) (fun e => by have := hb i e; omega)
def ObS (d b : Nat) (s : Txt) (a : Int) (R : PR (List (Txt × JsonD))) (w0 : World) (rv jb g : Nat) (en : Bool) (w : World) : Prop :=
  GX [b] w0 w ∧ w.heap[rv]? = some (.cells zeroC.toArray 46 (0, 0)) ∧
  ((∃ q acc, LstB w jb 7 (acc.map (·.1)) (acc.map (·.2)) ∧ ScB w b s q 0 a ∧ q ≤ s.length ∧ acc.length ≤ q ∧
      ((en = true ∧ q < s.length ∧ R = .ok acc (s.drop (q + 1))) ∨ (en = false ∧ ∃ n, n ≤ g ∧ s.length - q < n ∧ itemsR (pairR (valR d)) 125 n (s.drop q) acc = R))) ∨
   (∃ q c a' m k vn vk, w.heap[jb]? = some (.cells (jsonC 7 [] vn vk).toArray 46 (0, 0)) ∧ SlF vn ∧ SlF vk ∧ ScB w b s q c a' ∧ q ≤ s.length + d ∧ R = .bad m k ∧ m ≠ 0 ∧ c = (m : Int) ∧ a' = ((s.length - k : Nat) : Int)))
theorem ObS.look {d b : Nat} {s : Txt} {a : Int} {R : PR (List (Txt × JsonD))} {w : World} {rv jb g : Nat} {x : Bool} {wa : World} (h : ObS d b s a R w rv jb g x wa) (hrb : b < rv) (hw0 : w.heap.size ≤ rv) (hjb : jb = rv + 1) (hbl : b < w.heap.size) :
    (∃ q acc n vn vk cells, LstV wa jb 7 (acc.map (·.1)) (acc.map (·.2)) vn vk cells ∧ ScB wa b s q 0 a ∧ q ≤ s.length ∧ acc.length ≤ q ∧ x = false ∧ n + 1 ≤ g ∧ s.length - q < n + 1 ∧ itemsR (pairR (valR d)) 125 (n + 1) (s.drop q) acc = R) ∨
    ∃ q c a' vn vk, wa.heap[jb]? = some (.cells (jsonC 7 [] vn vk).toArray 46 (0, 0)) ∧ SlF vn ∧ SlF vk ∧ ScB wa b s q c a' ∧ q ≤ s.length + d ∧ ((c = 0 ∧ x = true) ∨ (c == 0) = false) ∧
      VlP (d + 1) b s a (R.bind fun ks t => .ok (.mk 7 [] (ks.map (·.1)) (ks.map (·.2))) t) w (.returned (.agg (jsonC 7 [] vn vk).toArray)) ((wa.setCell ⟨b, 1, none⟩ (.int .i64 ((q : Int) + 1))).setRow rv (jsonC 7 [] vn vk).toArray) := by
  obtain ⟨hg, hz, h⟩ := h
  rcases h with ⟨q, acc, hL, hs, hq, ha, h⟩ | ⟨q, c, a', m, k, vn, vk, hb, h1, h2, hs, hq, hR, hm, hc, ha⟩
  · rcases h with ⟨hx, hql, hR⟩ | ⟨hx, n, hn, hqn, hR⟩
    · right
      obtain ⟨vn, vk, hb, hj⟩ := hL.toJO (Nat.le_refl _)
      obtain ⟨_, _, e3, e4, _, e6⟩ := val_exit hrb hw0 (by omega) hbl hg hz hs hb
      refine ⟨q, 0, a, vn, vk, hb, (jo_form hj).1, (jo_form hj).2, hs, by omega, .inl ⟨rfl, hx⟩, e3, ?_⟩
      rw [hR]
      exact ⟨⟨vn, vk, rfl, e6 _ hj⟩, q + 1, by omega, rfl, e4⟩
    · left
      obtain ⟨vn, vk, cells, hL⟩ := hL
      obtain ⟨n', rfl⟩ : ∃ n', n = n' + 1 := ⟨n - 1, by omega⟩
      exact ⟨q, acc, n', vn, vk, cells, hL, hs, hq, ha, hx, hn, hqn, hR⟩
  · right
    obtain ⟨_, _, e3, e4, _, _⟩ := val_exit hrb hw0 (by omega) hbl hg hz hs hb
    refine ⟨q, c, a', vn, vk, hb, h1, h2, hs, hq, .inr (by subst hc; simpa using hm), e3, ?_⟩
    subst hR hc ha
    exact ⟨⟨7, [], vn, vk, rfl, h1, h2⟩, q + 1, by omega, hm, e4⟩
theorem ObS.out {d b : Nat} {s : Txt} {a : Int} {R : PR (List (Txt × JsonD))} {w : World} {rv jb g : Nat} {wa : World} (h : ObS d b s a R w rv jb g true wa) (hrb : b < rv) (hw0 : w.heap.size ≤ rv) (hjb : jb = rv + 1) (hbl : b < w.heap.size) :
    ∃ q c a' vn vk, wa.heap[jb]? = some (.cells (jsonC 7 [] vn vk).toArray 46 (0, 0)) ∧ SlF vn ∧ SlF vk ∧ ScB wa b s q c a' ∧ q ≤ s.length + d ∧
      VlP (d + 1) b s a (R.bind fun ks t => .ok (.mk 7 [] (ks.map (·.1)) (ks.map (·.2))) t) w (.returned (.agg (jsonC 7 [] vn vk).toArray)) ((wa.setCell ⟨b, 1, none⟩ (.int .i64 ((q : Int) + 1))).setRow rv (jsonC 7 [] vn vk).toArray) := by
  rcases h.look hrb hw0 hjb hbl with ⟨_, _, _, _, _, _, _, _, _, _, h, _⟩ | ⟨q, c, a', vn, vk, h1, h2, h3, h4, h5, _, h7⟩
  · cases h
  · exact ⟨q, c, a', vn, vk, h1, h2, h3, h4, h5, h7⟩
theorem ob_err {d b : Nat} {s : Txt} {a : Int} {R : PR (List (Txt × JsonD))} {w wa W : World} {rv jb m n q k : Nat} {c a' : Int} {vn vk : Value} {nc kc : List Value} (hrb : b < rv) (hw0 : w.heap.size ≤ rv) (hjb : jb = rv + 1) (hbl : b < w.heap.size) (hL : LstR wa jb 7 vn vk m n nc kc) (hg : GX [b] wa W) (hg0 : GX [b] w wa)
    (hz : wa.heap[rv]? = some (.cells zeroC.toArray 46 (0, 0))) (hs : ScB W b s q c a') (hq : q ≤ s.length + d) {e : Nat} (hR : R = .bad e k) (he : e ≠ 0) (hc : c = (e : Int)) (ha : a' = ((s.length - k : Nat) : Int)) :
    W.heap[jb]? = some (.cells (jsonC 7 [] vn vk).toArray 46 (0, 0)) ∧
    (W.setCell ⟨b, 1, none⟩ (.int .i64 ((q : Int) + 1))).heap[jb]? = some (.cells (jsonC 7 [] vn vk).toArray 46 (0, 0)) ∧
    (W.setCell ⟨b, 1, none⟩ (.int .i64 ((q : Int) + 1))).heap[rv]? = some (.cells zeroC.toArray 46 (0, 0)) ∧
    ((W.setCell ⟨b, 1, none⟩ (.int .i64 ((q : Int) + 1))).setRow rv (jsonC 7 [] vn vk).toArray).heap[rv]? = some (.cells (jsonC 7 [] vn vk).toArray 46 (0, 0)) ∧
    (jsonC 7 [] vn vk).toArray.all (·.oneCell') = true ∧
    VlP (d + 1) b s a (R.bind fun ks t => .ok (.mk 7 [] (ks.map (·.1)) (ks.map (·.2))) t) w (.returned (.agg (jsonC 7 [] vn vk).toArray)) ((W.setCell ⟨b, 1, none⟩ (.int .i64 ((q : Int) + 1))).setRow rv (jsonC 7 [] vn vk).toArray) := by
  have hL2 := hL.gx hg (by omega)
  have hz2 : W.heap[rv]? = some (.cells zeroC.toArray 46 (0, 0)) := hg.heap (by simp; omega) hz
  obtain ⟨e1, e2, e3, e4, e5, _⟩ := val_exit hrb hw0 (by omega) hbl (hg0.trans hg) hz2 hs hL2.blk
  obtain ⟨h1, h2⟩ := hL.sl
  refine ⟨hL2.blk, e1, e2, e5, rowJ_one h1 h2, e3, ?_⟩
  subst hR hc ha
  exact ⟨⟨7, [], vn, vk, rfl, h1, h2⟩, q + 1, by omega, he, e4⟩
set_option maxRecDepth 100000 in
set_option maxHeartbeats 8000000 in
theorem robject_any (d b : Nat) (s : Txt) (a : Int) (p : Nat) (w : World) (IH : VlAll d b s a) (hd : d < 20) (h : ScB w b s p 0 a) (hp : p < s.length) (hl : s.length ≤ 100000) :
    Calls Tryz.prog 37 #[.pointer (some ⟨b, 0, none⟩), .int .i64 (20 - ((d + 1 : Nat) : Int))] w (VlP (d + 1) b s a ((rowR (pairR (valR d)) 125 (s.drop (p + 1))).bind fun ks t => .ok (.mk 7 [] (ks.map (·.1)) (ks.map (·.2))) t) w) := by
  obtain ⟨R, hR⟩ : ∃ R, rowR (pairR (valR d)) 125 (s.drop (p + 1)) = R := ⟨_, rfl⟩
  rw [hR]
  have HR := Lib.hid hR
  have HBL : Hid (b < w.heap.size) := Lib.hid (lt_of_heap h)
  have H := Lib.hid h
  obtain ⟨D, hD⟩ : ∃ D : Int, 20 - ((d + 1 : Nat) : Int) = D := ⟨_, rfl⟩
  rw [hD]
  have hD1 : D + 1 = 20 - (d : Int) := by omega
  have hD2 : (0 : Int) ≤ D := by omega
  have hD3 : D ≤ 20 := by omega
  have IH : Hid (∀ q W, ScB W b s q 0 a → q ≤ s.length → Calls Tryz.prog 26 #[.pointer (some ⟨b, 0, none⟩), .int .i64 (D + 1)] W (VlP d b s a (valR d (s.drop q)) W)) := Lib.hid (fun q W h1 h2 => by rw [hD1]; exact IH q W h1 h2)
  clear h hR hD hD1
  go_enter Tryz.func37, Tryz.ntmps37
  go_upto_region 1 with (fail)
  obtain ⟨W0, hW0⟩ : ∃ W0, w.alloc (.cells #[.int .i64 0, .string ⟨#[]⟩, .slice none 0 0, .slice none 0 0] 46) = W0 := ⟨_, rfl⟩
  have hz0 : W0.heap[w.heap.size]? = some (.cells zeroC.toArray 46 (0, 0)) := by rw [← hW0]; exact heap_alloc_new w _
  have hq0 : Q w W0 := by rw [← hW0]; exact (Q.refl w).alloc _
  have hs0 : W0.heap.size = w.heap.size + 1 := by rw [← hW0]; simp
  obtain ⟨rv, hrv⟩ : ∃ rv, w.heap.size = rv := ⟨_, rfl⟩
  rw [hrv] at hz0 hs0
  rw [hW0, hrv]
  have HIn := Lib.hid (info_sz (.mk 7 [] [] []) (.slice none 0 0) (.slice none 0 0))
  have HOne := Lib.hid (cellJ_one (j := .mk 7 [] [] []) (un := .slice none 0 0) (uk := .slice none 0 0) ⟨_, _, _, rfl⟩ ⟨_, _, _, rfl⟩)
  have HZ0 := Lib.hid hz0
  have HQ0 := Lib.hid hq0
  have HS0 := Lib.hid hs0
  have HRV := Lib.hid hrv
  clear hW0 hz0 hq0 hs0 hrv
  go_upto_region 2 with (refine wpList_store_row rfl 46 (.tmp 5) (.tmp 9) rfl W0.heap.size (jsonC 7 [] (.slice none 0 0) (.slice none 0 0)).toArray rfl rfl 46 _ (heap_alloc_new W0 _) HIn.out rfl HOne.out ?_)
  obtain ⟨W1, hW1⟩ : ∃ W1, (W0.alloc (.cells #[.int .i64 0, .string ⟨#[]⟩, .slice none 0 0, .slice none 0 0] 46)).setRow W0.heap.size (jsonC 7 [] (.slice none 0 0) (.slice none 0 0)).toArray = W1 := ⟨_, rfl⟩
  have hb1 : W1.heap[W0.heap.size]? = some (.cells (jsonC 7 [] (.slice none 0 0) (.slice none 0 0)).toArray 46 (0, 0)) := by rw [← hW1]; exact setRow_at (heap_alloc_new W0 _) _
  have hq1 : Q W0 W1 := by rw [← hW1]; exact ((Q.refl W0).alloc _).setRow (Nat.le_refl _) _
  obtain ⟨jb, hjb⟩ : ∃ jb, W0.heap.size = jb := ⟨_, rfl⟩
  rw [hjb] at hb1 hW1
  rw [show (W0.alloc (.cells #[.int .i64 0, .string ⟨#[]⟩, .slice none 0 0, .slice none 0 0] 46)).setRow W0.heap.size (jsonC 7 [] (.slice none 0 0) (.slice none 0 0)).toArray = W1 by rw [hjb]; exact hW1, hjb]
  have HJB : Hid (jb = rv + 1) := Lib.hid (by rw [← hjb]; exact HS0.out)
  have HB1 := Lib.hid hb1
  have HZ1 := Lib.hid (hq1.block HZ0.out)
  have HS1 := Lib.hid (H.out.q (HQ0.out.trans hq1))
  have HG1 : Hid (GX [b] w W1) := Lib.hid (GX.q (HQ0.out.trans hq1))
  clear hW1 hb1 hq1 hjb HIn HOne HZ0 HQ0 HS0
  obtain ⟨-, x1, -, -⟩ := HS1.out.c
  have f1 := HS1.out.f 1
  have HS2 := Lib.hid (HS1.out.atn (p + 1) ((p : Int) + 1) (by omega))
  have HG2 : Hid (GX [b] W1 (W1.setCell ⟨b, 1, none⟩ (.int .i64 ((p : Int) + 1)))) := Lib.hid ((GX.refl _ _).set (by simp) _ _)
  have HBk := Lib.hid (rblanks_any b s (p + 1) 0 a _ HS2.out (by omega) (by omega))
  clear HS1 HS2
  go_wp2_with fail
  refine HBk.out.mono ?_
  rintro e W2 ⟨rfl, hg2, q, hq1, hq2, hdr, hs2⟩
  have HG3 := Lib.hid (HG2.out.trans hg2)
  have HS3 := Lib.hid hs2
  have HDr := Lib.hid hdr
  have hql : q ≤ s.length := by omega
  have HIs := Lib.hid (is_any b s q 0 a 125 W2 hs2)
  rw [show (((125 : UInt8).toNat : Nat) : Int) = 125 from rfl] at HIs
  obtain ⟨en, hen⟩ : ∃ en, isB s q 125 = en := ⟨_, rfl⟩
  rw [hen] at HIs
  have HEn := Lib.hid hen
  clear hg2 hq2 hdr hs2 HG2 HBk x1 f1 hen
  go_wp2_with fail
  refine HIs.out.mono ?_
  rintro e W3 ⟨rfl, hq3⟩
  have HI0 : Hid (ObS d b s a R w rv jb ((s.drop (p + 1)).length + 1) en W3) := Lib.hid (by
    have hg : GX [b] W1 W3 := HG3.out.trans (GX.q hq3)
    have hrb : b < rv := by rw [← HRV.out]; exact HBL.out
    have hz : W3.heap[rv]? = some (.cells zeroC.toArray 46 (0, 0)) := hg.heap (by simp; omega) HZ1.out
    have hL : LstB W3 jb 7 [] [] := (LstB.start HB1.out).gx hg (by have := HJB.out; omega)
    have hR := HR.out
    unfold rowR at hR
    rw [show skipJ (s.drop (p + 1)) = s.drop q from HDr.out.symm] at hR
    have hh : en = decide (hdB (s.drop q) = 125) := by rw [← HEn.out]; exact is_hd (by decide)
    refine ⟨HG1.out.trans hg, hz, .inl ⟨q, [], hL, HS3.out.q hq3, hql, by simp, ?_⟩⟩
    cases en with
    | true =>
      left
      have h1 := (is_iff s q 125).1 HEn.out
      have hh : hdB (s.drop q) = 125 := of_decide_eq_true hh.symm
      rw [if_pos hh, drop_at h1.1] at hR
      exact ⟨rfl, h1.1, hR.symm⟩
    | false =>
      right
      have hh : ¬ hdB (s.drop q) = 125 := of_decide_eq_false hh.symm
      rw [if_neg hh] at hR
      exact ⟨rfl, _, Nat.le_refl _, by simp; omega, hR⟩)
  clear hq3 HIs HEn HDr HS3 HG3 HG1 HZ1 HB1 H HR hq1
  obtain ⟨g0, hg0⟩ : ∃ g0, (s.drop (p + 1)).length + 1 = g0 := ⟨_, rfl⟩
  rw [hg0] at HI0
  have HRb : Hid (b < rv) := Lib.hid (by rw [← HRV.out]; exact HBL.out)
  have HW0 : Hid (w.heap.size ≤ rv) := Lib.hid (by rw [HRV.out]; exact Nat.le_refl _)
  clear HRV hg0 hql
  go_wp2_with fail
  go_loopg [6] (g0 + 1) (fun gk en wx => ∃ g x, gk = g + 1 ∧ en = .bool x ∧ Hid (ObS d b s a R w rv jb g x wx))
  case atStart => exact ⟨g0, en, rfl, rfl, HI0⟩
  case round =>
    obtain ⟨g, x, rfl, rfl, HI⟩ := hrel
    rename World => wa
    have HG := Lib.hid HI.out.1
    have HZ := Lib.hid HI.out.2.1
    rcases HI.out.look HRb.out HW0.out HJB.out HBL.out with ⟨q, acc, n, vn, vk, cells, hL, hs, hq, hal, rfl, hn, hqn, hR⟩ | ⟨q, c, a', vn, vk, hb, h1, h2, hs, hq, hcx, hfin⟩
    rotate_left
    · obtain ⟨x0, x1, x2, -⟩ := hs.c
      have f1 := hs.f 1
      obtain ⟨e1, e2, -, -, e5, -⟩ := val_exit HRb.out HW0.out (by have := HJB.out; omega) HBL.out HG.out HZ.out hs hb
      have E1 := Lib.hid e1
      have E2 := Lib.hid e2
      have E5 := Lib.hid e5
      have HFin := Lib.hid hfin
      have HSz := Lib.hid (rowJ_sz 7 [] vn vk)
      have HOne := Lib.hid (rowJ_one (k := 7) (t := []) h1 h2)
      clear HI hb h1 h2 hs hfin e1 e2 e5 x0
      rcases hcx with ⟨rfl, rfl⟩ | hc0
      all_goals
        go_wp2_with (first | refine wpList_load_row rfl 46 (.tmp 5) rfl jb rfl 46 (jsonC 7 [] vn vk).toArray (0, 0) _ E1.out Tryz.underlying46 rfl HSz.out ?_ | refine wpList_store_row rfl 46 (.tmp 4) (.tmp 88) rfl rv (jsonC 7 [] vn vk).toArray rfl rfl 46 _ E2.out HSz.out rfl HOne.out ?_)
        refine bodyPost_ret (results_cell_row rfl _ _ rv 46 _ (0, 0) _ (by rfl) E5.out Tryz.underlying46 rfl HSz.out) rfl ?_
        exact HFin.out
    · have HL := Lib.hid hL
      have HS := Lib.hid hs
      have HTx := Lib.hid (rtext_any b s q a wa hs hq (by omega))
      have HSz7 := Lib.hid (rowJ_sz 7 [] vn vk)
      obtain ⟨x0, x1, x2, -⟩ := hs.c
      obtain ⟨T, hT⟩ : ∃ T, textR (s.drop q) = T := ⟨_, rfl⟩
      rw [hT] at HTx
      obtain ⟨F, hF⟩ : ∃ F : Txt × JsonD → Txt → PR (List (Txt × JsonD)), F = fun v r => if hdB (skipJ r) = 125 then .ok (acc ++ [v]) (skipJ r).tail else (takeR 44 (skipJ r)).bind fun _ u => itemsR (pairR (valR d)) 125 n (skipJ u) (acc ++ [v]) := ⟨_, rfl⟩
      have HF := Lib.hid hF
      have HR : Hid ((T.bind fun name r => (takeR 58 (skipJ r)).bind fun _ u => (valR d (skipJ u)).bind fun v t => .ok (name, v) t).bind F = R) := Lib.hid (by rw [← hR, itemsR, pairR, hT, hF])
      have HTe : Hid (∀ x t, T = .ok x t → t.length < s.length - q) := Lib.hid (fun x t e => by
        have := textR_eats (s.drop q) x t (hT.trans e)
        rw [List.length_drop] at this; exact this)
      clear HI hL hs hR x0 x1 hT hF
      go_wp2_with fail
      refine HTx.out.mono ?_
      intro e w1 hP
      have HP := Lib.hid hP
      clear hP HTx x2
      cases T with
      | bad m k =>
        obtain ⟨hg1, ⟨xx, rfl⟩, q1, hq1, hm, hs1⟩ := HP.out
        have HRe : Hid (R = .bad m k) := Lib.hid HR.out.symm
        have hc0 : ((m : Int) == 0) = false := by simpa using hm
        have hcn : ((m : Int) != 0) = true := by simpa using hm
        have HG1 := Lib.hid hg1
        have HBk := Lib.hid (rblanks_any b s q1 (m : Int) ((s.length - k : Nat) : Int) w1 hs1 (by omega) (by omega))
        clear hg1 hs1 HP HR HTe
        go_wp2_with fail
        refine HBk.out.mono ?_
        rintro e W6 ⟨rfl, hg6, q2, hq12, hq2, hdr, hs6⟩
        obtain ⟨x0, x1, x2, -⟩ := hs6.c
        have f1 := hs6.f 1
        obtain ⟨-, e1, e2, e3, e4, e5⟩ := ob_err (a := a) HRb.out HW0.out HJB.out HBL.out HL.out.raw (HG1.out.trans hg6) HG.out HZ.out hs6 (by omega) HRe.out hm rfl rfl
        have E1 := Lib.hid e1
        have E2 := Lib.hid e2
        have E3 := Lib.hid e3
        have E4 := Lib.hid e4
        have HFin := Lib.hid e5
        clear e1 e2 e3 e4 e5
        go_wp2_with (first | refine wpList_load_row rfl 46 (.tmp 5) rfl jb rfl 46 (jsonC 7 [] vn vk).toArray (0, 0) _ E1.out Tryz.underlying46 rfl HSz7.out ?_ | refine wpList_store_row rfl 46 (.tmp 4) (.tmp 88) rfl rv (jsonC 7 [] vn vk).toArray rfl rfl 46 _ E2.out HSz7.out rfl E4.out ?_)
        refine bodyPost_ret (results_cell_row rfl _ _ rv 46 _ (0, 0) _ (by rfl) E3.out Tryz.underlying46 rfl HSz7.out) rfl ?_
        exact HFin.out
      | ok nm t =>
        obtain ⟨hg1, rfl, q1, hq1, hd1, hs1⟩ := HP.out
        have hqq := HTe.out nm t rfl
        rw [← hd1, List.length_drop] at hqq
        have HG1 := Lib.hid hg1
        have HBk := Lib.hid (rblanks_any b s q1 0 a w1 hs1 (by omega) (by omega))
        have HR2 : Hid (((takeR 58 (skipJ (s.drop q1))).bind fun _ u => (valR d (skipJ u)).bind fun v t => .ok (nm, v) t).bind F = R) := Lib.hid (by rw [hd1]; exact HR.out)
        clear hg1 hs1 HP HR HTe hd1
        go_wp2_with fail
        refine HBk.out.mono ?_
        rintro e W6 ⟨rfl, hg6, q2, hq12, hq2, hdr, hs6⟩
        have HG6 := Lib.hid (HG1.out.trans hg6)
        have hdr : s.drop q2 = skipJ (s.drop q1) := hdr
        have HR3 : Hid (((takeR 58 (s.drop q2)).bind fun _ u => (valR d (skipJ u)).bind fun v t => .ok (nm, v) t).bind F = R) := Lib.hid (by rw [hdr]; exact HR2.out)
        have HWt := Lib.hid (want_any b s q2 0 a 58 W6 hs6 (by omega))
        rw [show (((58 : UInt8).toNat : Nat) : Int) = 58 from rfl] at HWt
        obtain ⟨x0, x1, x2, -⟩ := hs6.c
        clear hg6 hdr hs6 HBk x0 x1 HR2
        go_wp2_with fail
        refine HWt.out.mono ?_
        rintro e W7 ⟨rfl, hg7, hs7⟩
        have HG7 := Lib.hid (HG6.out.trans hg7)
        clear hg7 HWt x2
        by_cases hw58 : isB s q2 58 = true
        rotate_left
        · rw [if_neg hw58] at hs7
          have HRe : Hid (R = .bad 54 (s.length - q2)) := Lib.hid (by rw [← HR3.out, take_at, if_neg hw58]; rfl)
          have hs7 : ScB W7 b s q2 54 (q2 : Int) := by simpa [keepE] using hs7
          have HBk := Lib.hid (rblanks_any b s q2 54 (q2 : Int) W7 hs7 (by omega) (by omega))
          clear hs7 hw58 HR3
          go_wp2_with fail
          refine HBk.out.mono ?_
          rintro e W9 ⟨rfl, hg9, q3, hq23, hq3, hdr3, hs9⟩
          obtain ⟨x0, x1, x2, -⟩ := hs9.c
          have f1 := hs9.f 1
          obtain ⟨-, e1, e2, e3, e4, e5⟩ := ob_err (a := a) HRb.out HW0.out HJB.out HBL.out HL.out.raw (HG7.out.trans hg9) HG.out HZ.out hs9 (by omega) HRe.out (by decide) rfl (by omega)
          have E1 := Lib.hid e1
          have E2 := Lib.hid e2
          have E3 := Lib.hid e3
          have E4 := Lib.hid e4
          have HFin := Lib.hid e5
          clear e1 e2 e3 e4 e5
          go_wp2_with (first | refine wpList_load_row rfl 46 (.tmp 5) rfl jb rfl 46 (jsonC 7 [] vn vk).toArray (0, 0) _ E1.out Tryz.underlying46 rfl HSz7.out ?_ | refine wpList_store_row rfl 46 (.tmp 4) (.tmp 88) rfl rv (jsonC 7 [] vn vk).toArray rfl rfl 46 _ E2.out HSz7.out rfl E4.out ?_)
          refine bodyPost_ret (results_cell_row rfl _ _ rv 46 _ (0, 0) _ (by rfl) E3.out Tryz.underlying46 rfl HSz7.out) rfl ?_
          exact HFin.out
        · rw [if_pos hw58] at hs7
          have h58 := ((is_iff s q2 58).1 hw58).1
          have HR4 : Hid (((valR d (skipJ (s.drop (q2 + 1)))).bind fun v t => .ok (nm, v) t).bind F = R) := Lib.hid (by rw [← HR3.out, take_at, if_pos hw58]; rfl)
          have HBk := Lib.hid (rblanks_any b s (q2 + 1) 0 a W7 hs7 (by omega) (by omega))
          clear hs7 hw58 HR3
          go_wp2_with fail
          refine HBk.out.mono ?_
          rintro e W8 ⟨rfl, hg8, q3, hq23, hq3, hdr3, hs8⟩
          have hdr3 : s.drop q3 = skipJ (s.drop (q2 + 1)) := hdr3
          have HR5 : Hid (((valR d (s.drop q3)).bind fun v t => .ok (nm, v) t).bind F = R) := Lib.hid (by rw [hdr3]; exact HR4.out)
          have hgA := HG7.out.trans hg8
          have HGA := Lib.hid (HG.out.trans hgA)
          have HL8 := Lib.hid (HL.out.gx hgA (by have := HJB.out; have := HRb.out; omega))
          have HZ8 : Hid (W8.heap[rv]? = some (.cells zeroC.toArray 46 (0, 0))) := Lib.hid (hgA.heap (by have := HRb.out; simp; omega) HZ.out)
          have hq3l : q3 ≤ s.length := by omega
          have HVl := Lib.hid (IH.out q3 W8 hs8 hq3l)
          obtain ⟨x0, x1, x2, -⟩ := hs8.c
          clear hg8 hdr3 hs8 HBk HR4 hgA HG7 HG6 HG1 HL HS HG HZ x0 x1
          go_wp2_with fail
          refine HVl.out.mono ?_
          intro e w2 hV
          obtain ⟨kk, kt, un, uk, rfl, hun, huk, hg2, q4, c, a', hq4, hs4, hres⟩ := hV.any
          obtain ⟨ns, hns⟩ : ∃ ns, acc.map (·.1) = ns := ⟨_, rfl⟩
          obtain ⟨ks, hks⟩ : ∃ ks, acc.map (·.2) = ks := ⟨_, rfl⟩
          have HNl : Hid (ns.length = acc.length) := Lib.hid (by rw [← hns]; simp)
          have HKl : Hid (ks.length = acc.length) := Lib.hid (by rw [← hks]; simp)
          rw [hns, hks] at HL8
          have HNs := Lib.hid hns
          have HKs := Lib.hid hks
          have HG2 := Lib.hid hg2
          have HS4 := Lib.hid hs4
          have HRes := Lib.hid hres
          have HSz := Lib.hid (rowJ_sz kk kt un uk)
          have HOne := Lib.hid (rowJ_one (k := kk) (t := kt) hun huk)
          have hbj : b < jb := by have := HJB.out; have := HRb.out; omega
          have hlt8 := HL8.out.lt
          have hlt2 : jb < w2.heap.size := by have := hg2.size; omega
          clear hV hg2 hs4 hres HVl x2 hns hks HSz7
          go_upto_region 13 with (refine wpList_store_row rfl 46 (.tmp 8) (.tmp 51) rfl w2.heap.size (jsonC kk kt un uk).toArray rfl rfl 46 _ (heap_alloc_new w2 _) HSz.out rfl HOne.out ?_)
          obtain ⟨An, cn, hvn, hn1, hn2, hn3⟩ := row_cells HL8.out.nrow (by simp)
          obtain ⟨A, cp, hvk, hn4, hn5, hn6⟩ := row_cells HL8.out.krow HL8.out.krow.1
          subst hvn
          subst hvk
          obtain ⟨W3, hW3⟩ : ∃ W3, (w2.alloc (.cells #[.int .i64 0, .string ⟨#[]⟩, .slice none 0 0, .slice none 0 0] 46)).setRow w2.heap.size (jsonC kk kt un uk).toArray = W3 := ⟨_, rfl⟩
          have hk3 : W3.heap[w2.heap.size]? = some (.cells (jsonC kk kt un uk).toArray 46 (0, 0)) := by rw [← hW3]; exact setRow_at (heap_alloc_new w2 _) _
          have hq23' : Q w2 W3 := by rw [← hW3]; exact ((Q.refl w2).alloc _).setRow (Nat.le_refl _) _
          rw [hW3]
          obtain ⟨N, hN⟩ : ∃ N, w2.heap.size = N := ⟨_, rfl⟩
          rw [hN] at hk3 ⊢
          have HK3 : Hid (W3.heap[N]? = some (.cells #[.int .i64 kk, .string ⟨kt.toArray⟩, un, uk] 46 (0, 0))) := Lib.hid hk3
          have HSz2 : Hid ((Tryz.prog.info? 46).map (·.size) = some (#[Value.int .i64 kk, .string ⟨kt.toArray⟩, un, uk]).size) := Lib.hid HSz.out
          have HQ3 := Lib.hid hq23'
          have HR3' := Lib.hid ((HL8.out.raw.gx HG2.out hbj).gx (GX.q (S := [b]) hq23') hbj)
          have c2 : W3.cell? ⟨jb, 2, none⟩ = some (.slice An ns.length cn) := by rw [cell_of_row _ _ _ _ _ _ HR3'.out.blk]; rfl
          have HNN := Lib.hid hN
          clear hk3 hq23' hW3 hN hn3 hn6
          obtain ⟨ts, hsi, hsz0, hsz1, hsz2⟩ := info_parts info_str
          have hqA : Q W3 (W3.alloc (.cells #[.string ⟨nm.toArray⟩] 9)) := (Q.refl W3).alloc _
          have hkr := ownsRow_frame HR3'.out.nrow (fun i _ h => Below.block hqA i h)
          have ha1 : ∀ j u, [strV nm][j]? = some u → (W3.alloc (.cells #[.string ⟨nm.toArray⟩] 9)).cell? ((⟨W3.heap.size, 0, none⟩ : Addr).add j) = some u := by
            intro j u hj
            rw [add_off, Nat.zero_add, cell_of_row _ _ _ _ _ _ (heap_alloc_new W3 _)]
            simpa [strV] using hj
          have ha2 : ∀ u ∈ [strV nm], u.oneCell' = true := by intro u hu; simp at hu; subst hu; rfl
          have HA := Lib.hid (And.intro hkr (And.intro ha1 ha2))
          have HI4 := Lib.hid (And.intro hsi (And.intro hsz0 (And.intro hsz1 hsz2)))
          have HQA := Lib.hid hqA
          have hal2 : ns.length ≤ 100000 := by have := HNl.out; omega
          have hal3 : ks.length ≤ 100000 := by have := HKl.out; omega
          clear hkr ha1 ha2 hsi hsz0 hsz1 hsz2 hqA
          go_upto_region 14 with (at_builtin; refine wpList_append_own_at (w := W3.alloc (.cells #[.string ⟨nm.toArray⟩] 9)) rfl (.tmp 53) (.tmp 55) 39 rfl (jb + 1) 9 ts _ 1 16 Tryz.underlying39 HI4.out.1 HI4.out.2.1 HI4.out.2.2.1 HI4.out.2.2.2 rfl (by decide) (.slice An ns.length cn) ns.length (ns.map strV) rfl HA.out.1 ⟨W3.heap.size, 0, none⟩ 1 1 [strV nm] rfl rfl HA.out.2.1 HA.out.2.2 (by unfold maxLen; omega) (by omega) (by have := HQA.out.size; have := lt_of_heap HR3'.out.blk; omega) ?_; intro v' w4 hrow hgrow _ hob; obtain ⟨⟨gg, cap, rfl⟩, _, cj4, _, fj4, _⟩ := HR3'.out.mid (.inl rfl) HQA.out hgrow hrow; have HRow := Lib.hid hrow; have HGrow := Lib.hid hgrow; have HOb := Lib.hid hob; clear hrow hgrow hob c2)
          obtain ⟨r5, a5⟩ := HR3'.out.name HQA.out HGrow.out HRow.out HOb.out
          clear cj4 fj4 HRow HGrow HOb HA HI4 HQA
          obtain ⟨w5, hw5⟩ : ∃ w5, w4.setCell ⟨jb, 2, none⟩ (.slice (some ⟨gg, 0, none⟩) (ns.length + 1) cap) = w5 := ⟨_, rfl⟩
          rw [hw5] at r5 a5
          rw [hw5]
          clear hw5
          have HK5 : Hid (w5.heap[N]? = some (.cells #[.int .i64 kk, .string ⟨kt.toArray⟩, un, uk] 46 (0, 0))) := Lib.hid (by
            have h8 := HL8.out.raw.nb
            have := HG2.out.size
            rw [a5.hf N (lt_of_heap HK3.out) (by have := HNN.out; omega) (fun e => by have := (h8 N e).2; have := HNN.out; omega)]
            exact HK3.out)
          have HR5' := Lib.hid r5
          have HA5 := Lib.hid a5
          have c3 : w5.cell? ⟨jb, 3, none⟩ = some (.slice A ks.length cp) := by rw [cell_of_row _ _ _ _ _ _ r5.blk]; rfl
          clear r5 a5 HK3
          obtain ⟨ti, hi, hz0, hz1, hz2⟩ := info_parts info_json
          have hqB : Q w5 (w5.alloc (.cells #[.int .i64 kk, .string ⟨kt.toArray⟩, un, uk] 46)) := (Q.refl w5).alloc _
          have hkr := ownsRow_frame HR5'.out.krow (fun i _ h => Below.block hqB i h)
          have ha1 : ∀ j u, (jsonC kk kt un uk)[j]? = some u → (w5.alloc (.cells #[.int .i64 kk, .string ⟨kt.toArray⟩, un, uk] 46)).cell? ((⟨w5.heap.size, 0, none⟩ : Addr).add j) = some u := by
            intro j u hj
            rw [add_off, Nat.zero_add, cell_of_row _ _ _ _ _ _ (heap_alloc_new w5 _)]
            simpa [jsonC] using hj
          have ha2 : ∀ u ∈ jsonC kk kt un uk, u.oneCell' = true := by
            obtain ⟨_, _, _, rfl⟩ := hun
            obtain ⟨_, _, _, rfl⟩ := huk
            intro u hu; simp [jsonC] at hu; rcases hu with rfl | rfl | rfl | rfl <;> rfl
          have HB := Lib.hid (And.intro hkr (And.intro ha1 ha2))
          have HJ4 := Lib.hid (And.intro hi (And.intro hz0 (And.intro hz1 hz2)))
          have HQB := Lib.hid hqB
          clear hkr ha1 ha2 hi hz0 hz1 hz2 hqB
          go_upto_region 15 with (first | refine wpList_load_row rfl 46 (.tmp 8) rfl N rfl 46 #[.int .i64 kk, .string ⟨kt.toArray⟩, un, uk] (0, 0) _ HK5.out Tryz.underlying46 rfl HSz2.out ?_ | (at_builtin; refine wpList_append_own_at (w := w5.alloc (.cells #[.int .i64 kk, .string ⟨kt.toArray⟩, un, uk] 46)) rfl (.tmp 59) (.tmp 61) 44 rfl (jb + 1) 46 ti _ 4 72 Tryz.underlying44 HJ4.out.1 HJ4.out.2.1 HJ4.out.2.2.1 HJ4.out.2.2.2 rfl (by decide) (.slice A ks.length cp) ks.length cells rfl HB.out.1 ⟨w5.heap.size, 0, none⟩ 1 1 (jsonC kk kt un uk) rfl rfl HB.out.2.1 HB.out.2.2 (by unfold maxLen; omega) (by omega) (by have := HQB.out.size; have := lt_of_heap HR5'.out.blk; omega) ?_; intro v' w6 hrow hgrow _ hob; obtain ⟨⟨gk2, cap2, rfl⟩, _, _, cj4, _, fj4⟩ := HR5'.out.mid (.inr rfl) HQB.out hgrow hrow; have HRow := Lib.hid hrow; have HGrow := Lib.hid hgrow; have HOb := Lib.hid hob; clear hrow hgrow hob c3))
          obtain ⟨r9, a9⟩ := HR5'.out.kid HQB.out HGrow.out HRow.out HOb.out
          clear cj4 fj4 HRow HGrow HOb HB HJ4 HQB
          have HR9 := Lib.hid r9
          obtain ⟨w9, hw9⟩ : ∃ w9, w6.setCell ⟨jb, 3, none⟩ (.slice (some ⟨gk2, 0, none⟩) (ks.length + 1) cap2) = w9 := ⟨_, rfl⟩
          rw [hw9] at HR9 a9
          rw [hw9]
          have hj0 : w.heap.size ≤ jb := by have := HW0.out; have := HJB.out; omega
          have hlow : ∀ i, i < jb → w9.heap[i]? = w2.heap[i]? := fun i hi => by
            have s3 := HQ3.out.size
            have s5 := HA5.out.sz
            rw [a9.low (fun i e => (HR5'.out.kb i e).1) hi (by omega), HA5.out.low (fun i e => (HR3'.out.nb i e).1) hi (by omega)]
            exact Below.block HQ3.out i (by omega)
          have HGB : Hid (GX [b] w w9) := Lib.hid (a9.gx b w (HA5.out.gx b w ((HGA.out.trans HG2.out).trans (GX.q HQ3.out)) hj0) hj0)
          have HZ9 : Hid (w9.heap[rv]? = some (.cells zeroC.toArray 46 (0, 0))) := Lib.hid (by
            rw [hlow rv (by have := HJB.out; omega)]
            exact HG2.out.heap (by have := HRb.out; simp; omega) HZ8.out)
          have hs9 : ScB w9 b s q4 c a' := by
            unfold ScB
            rw [hlow b hbj]; exact HS4.out
          have HLg : Hid (∀ v, jsonC kk kt un uk = cellJ v un uk → JO w2 v W8.heap.size w2.heap.size un uk → LstV w9 jb 7 (ns ++ [nm]) (ks ++ [v]) (.slice (some ⟨gg, 0, none⟩) (ns.length + 1) cap) (.slice (some ⟨gk2, 0, none⟩) (ks.length + 1) cap2) (cells ++ cellJ v un uk)) := Lib.hid (fun v hk hj => pair_laid HL8.out HG2.out hbj hj HQ3.out HA5.out (Q.refl w5) a9 (hk ▸ HR9.out))
          have HBk := Lib.hid (rblanks_any b s q4 c a' w9 hs9 (by omega) (by omega))
          clear hlow hs9 a9 hw9 r9 HK5 HSz HOne HSz2 HL8 HG2 HS4 HR3' HR5' HA5 HQ3 HNN hun huk HGA HZ8
          go_wp2_with fail
          refine HBk.out.mono ?_
          rintro e Wa ⟨rfl, hgA, q5, hq45, hq5, hdr5, hsA⟩
          have HGa := Lib.hid hgA
          have HSa := Lib.hid hsA
          have HDr : Hid (s.drop q5 = skipJ (s.drop q4)) := Lib.hid hdr5
          have HIs := Lib.hid (is_any b s q5 c a' 125 Wa hsA)
          rw [show (((125 : UInt8).toNat : Nat) : Int) = 125 from rfl] at HIs
          obtain ⟨en2, hen⟩ : ∃ en2, isB s q5 125 = en2 := ⟨_, rfl⟩
          rw [hen] at HIs
          have HEn := Lib.hid hen
          clear hgA hdr5 hsA HBk hen
          go_wp2_with fail
          refine HIs.out.mono ?_
          rintro e Wb ⟨rfl, hqb⟩
          have HSb := Lib.hid (HSa.out.q hqb)
          have HGb := Lib.hid (HGa.out.trans (GX.q hqb))
          obtain ⟨x0, x1, x2, -⟩ := (HSa.out.q hqb).c
          clear hqb HIs HSa HGa x0 x1
          rcases HRes.out with ⟨v, t, hv, hkc, hjo, hc, haa, hq4l, hdt⟩ | ⟨m, k, hv, hm, hc, haa⟩
          rotate_left
          · have hc0 : (c == 0) = false := by subst hc; simpa using hm
            have HNext : Hid (ObS d b s a R w rv jb (g - 1) en2 Wb) := Lib.hid (by
              have h9 := HR9.out.gx HGb.out hbj
              refine ⟨HGB.out.trans HGb.out, HGb.out.heap (by have := HRb.out; simp; omega) HZ9.out, .inr ⟨q5, c, a', m, k, _, _, h9.blk, h9.sl.1, h9.sl.2, HSb.out, by omega, ?_, hm, hc, haa⟩⟩
              rw [← HR5.out, hv]; rfl)
            clear HRes hv hm hc haa HR9 HGB HLg HZ9 HDr HEn HSb HGb HR5
            go_wp2_with fail
            go_roundg g
            case measure => omega
            case rel => exact ⟨g - 1, en2, by omega, rfl, HNext⟩
          · rw [hc, haa] at HSb
            rw [hc] at x2
            have hgood := valR_eats d (s.drop q3) v t hv
            rw [← hdt, List.length_drop, List.length_drop] at hgood
            have hR := HR5.out
            rw [hv, ← hdt] at hR
            have hR : F (nm, v) (s.drop q4) = R := hR
            rw [HF.out] at hR
            have HR2 : Hid ((if hdB (s.drop q5) = 125 then .ok (acc ++ [(nm, v)]) (s.drop q5).tail else (takeR 44 (s.drop q5)).bind fun _ u => itemsR (pairR (valR d)) 125 n (skipJ u) (acc ++ [(nm, v)])) = R) := Lib.hid (by rw [HDr.out]; exact hR)
            have HL7 : Hid (∀ W', GX [b] Wb W' → LstB W' jb 7 ((acc ++ [(nm, v)]).map (·.1)) ((acc ++ [(nm, v)]).map (·.2))) := Lib.hid (fun W' h => by
              have := (HLg.out v hkc hjo).gx (HGb.out.trans h) hbj
              rw [List.map_append, List.map_append, HNs.out, HKs.out]
              exact ⟨_, _, _, this⟩)
            have HRW := Lib.hid (HR9.out.gx HGb.out hbj)
            have HG8 := Lib.hid (HGB.out.trans HGb.out)
            have HZ8 : Hid (Wb.heap[rv]? = some (.cells zeroC.toArray 46 (0, 0))) := Lib.hid (HGb.out.heap (by have := HRb.out; simp; omega) HZ9.out)
            have HH : Hid (en2 = decide (hdB (s.drop q5) = 125)) := Lib.hid (by rw [← HEn.out]; exact is_hd (by decide))
            have hq5l : q5 ≤ s.length := by omega
            clear hv hkc hjo hdt hR HRes HR5 HDr HLg HR9 HGB HZ9 HGb hc haa
            cases en2 with
            | true =>
              have HNext : Hid (ObS d b s a R w rv jb (g - 1) true Wb) := Lib.hid (by
                have h1 := (is_iff s q5 125).1 HEn.out
                have hh : hdB (s.drop q5) = 125 := of_decide_eq_true HH.out.symm
                have hR := HR2.out
                rw [if_pos hh, drop_at h1.1] at hR
                exact ⟨HG8.out, HZ8.out, .inl ⟨q5, acc ++ [(nm, v)], HL7.out _ (GX.refl _ _), HSb.out, hq5l, by simp; omega, .inl ⟨rfl, h1.1, hR.symm⟩⟩⟩)
              clear HR2 HL7 HG8 HZ8 HH HEn HSb HRW
              go_wp2_with fail
              go_roundg g
              case measure => omega
              case rel => exact ⟨g - 1, true, by omega, rfl, HNext⟩
            | false =>
              have hh : ¬ hdB (s.drop q5) = 125 := of_decide_eq_false HH.out.symm
              have hR := HR2.out
              rw [if_neg hh, take_at] at hR
              have HR3 := Lib.hid hR
              have HWt := Lib.hid (want_any b s q5 0 a 44 Wb HSb.out (by omega))
              rw [show (((44 : UInt8).toNat : Nat) : Int) = 44 from rfl] at HWt
              clear hR hh HR2 HEn HH
              go_wp2_with fail
              refine HWt.out.mono ?_
              rintro e Wc ⟨rfl, hg8, hs8⟩
              have HG9 := Lib.hid hg8
              clear hg8 HWt
              by_cases hw44 : isB s q5 44 = true
              · rw [if_pos hw44] at hs8
                have h44 := ((is_iff s q5 44).1 hw44).1
                have HR4 : Hid (itemsR (pairR (valR d)) 125 n (skipJ (s.drop (q5 + 1))) (acc ++ [(nm, v)]) = R) := Lib.hid (by rw [← HR3.out, if_pos hw44]; rfl)
                have HBk := Lib.hid (rblanks_any b s (q5 + 1) 0 a Wc hs8 (by omega) (by omega))
                clear hs8 hw44 HR3
                go_wp2_with fail
                refine HBk.out.mono ?_
                rintro e We ⟨rfl, hg10, q6, hq56, hq6, hdr6, hs10⟩
                have HNext : Hid (ObS d b s a R w rv jb (g - 1) false We) := Lib.hid (by
                  have hgg := HG9.out.trans hg10
                  refine ⟨HG8.out.trans hgg, hgg.heap (by have := HRb.out; simp; omega) HZ8.out, .inl ⟨q6, acc ++ [(nm, v)], HL7.out _ hgg, hs10, by omega, by simp; omega, .inr ⟨rfl, n, by omega, by omega, ?_⟩⟩⟩
                  rw [show s.drop q6 = skipJ (s.drop (q5 + 1)) from hdr6]
                  exact HR4.out)
                clear hg10 hdr6 hs10 HBk HR4 HG8 HG9 HL7 HZ8 x2 HSb HRW
                go_wp2_with fail
                go_roundg g
                case measure => omega
                case rel => exact ⟨g - 1, false, by omega, rfl, HNext⟩
              · rw [if_neg hw44] at hs8
                have HR4 : Hid (R = .bad 54 (s.length - q5)) := Lib.hid (by rw [← HR3.out, if_neg hw44]; rfl)
                have hs8 : ScB Wc b s q5 54 (q5 : Int) := by simpa [keepE] using hs8
                have HBk := Lib.hid (rblanks_any b s q5 54 (q5 : Int) Wc hs8 (by omega) (by omega))
                clear hs8 hw44 HR3
                go_wp2_with fail
                refine HBk.out.mono ?_
                rintro e We ⟨rfl, hg10, q6, hq56, hq6, hdr6, hs10⟩
                have HNext : Hid (ObS d b s a R w rv jb (g - 1) false We) := Lib.hid (by
                  have hgg := HG9.out.trans hg10
                  have hL9 := HRW.out.gx hgg hbj
                  exact ⟨HG8.out.trans hgg, hgg.heap (by have := HRb.out; simp; omega) HZ8.out, .inr ⟨q6, 54, (q5 : Int), 54, s.length - q5, _, _, hL9.blk, hL9.sl.1, hL9.sl.2, hs10, by omega, HR4.out, by decide, rfl, by omega⟩⟩)
                clear hg10 hdr6 hs10 HBk HR4 HG8 HG9 HL7 HZ8 x2 HSb HRW
                go_wp2_with fail
                go_roundg g
                case measure => omega
                case rel => exact ⟨g - 1, false, by omega, rfl, HNext⟩
end Go.Proofs.YtlhhiiemojhjdaaGreatDoor
