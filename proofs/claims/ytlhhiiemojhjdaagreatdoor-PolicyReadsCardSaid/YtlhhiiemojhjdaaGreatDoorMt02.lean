/- Texts of this proof, laid into one: KaF, KaG, KaH, KaI, Strs, Gx, KbA. -/
import Derived.Test.YtlhhiiemojhjdaaGreatDoorMt01
import Derived.Test.YtlhhiiemojhjdaaGreatDoorShelf
import Derived.Laws.Rows
set_option linter.unusedVariables false
set_option linter.unusedSimpArgs false
namespace Go.Proofs.YtlhhiiemojhjdaaGreatDoor
open Go Go.RowKit
def isNumL (t : List UInt8) : Bool := match numR t with
  | .ok _ [] => true
  | _ => false
mutual
def wfJ : JsonD → Nat → Bool
  | .mk k t ns ks, d =>
    if k = 1 ∨ k = 2 ∨ k = 3 then t.isEmpty && ns.isEmpty && ks.isEmpty
    else if k = 4 then ns.isEmpty && ks.isEmpty
    else if k = 5 then ns.isEmpty && ks.isEmpty && Lib.validD t
    else if k = 6 then t.isEmpty && ns.isEmpty && decide (0 < d) && wfKs ks (d - 1)
    else if k = 7 then t.isEmpty && decide (ns.length = ks.length) && ns.all Lib.validD && decide (0 < d) && wfKs ks (d - 1)
    else false
def wfKs : List JsonD → Nat → Bool
  | [], _ => true
  | j :: r, d => wfJ j d && wfKs r d
end
mutual
def cntJ : JsonD → Nat
  | .mk _ _ _ ks => cntKs ks + 1
def cntKs : List JsonD → Nat
  | [] => 0
  | j :: r => cntJ j + cntKs r
end
mutual
def numJ : JsonD → Bool
  | .mk k t _ ks => (decide (k ≠ 4) || isNumL t) && numKs ks
def numKs : List JsonD → Bool
  | [] => true
  | j :: r => numJ j && numKs r
end
theorem wfKs_app (a b : List JsonD) (d : Nat) : wfKs (a ++ b) d = (wfKs a d && wfKs b d) := by
  induction a with
  | nil => rfl
  | cons j r ih => rw [List.cons_append, wfKs, wfKs, ih, Bool.and_assoc]
theorem cntKs_app (a b : List JsonD) : cntKs (a ++ b) = cntKs a + cntKs b := by
  induction a with
  | nil => simp [cntKs]
  | cons j r ih => rw [List.cons_append, cntKs, cntKs, ih, Nat.add_assoc]
theorem numKs_app (a b : List JsonD) : numKs (a ++ b) = (numKs a && numKs b) := by
  induction a with
  | nil => rfl
  | cons j r ih => rw [List.cons_append, numKs, numKs, ih, Bool.and_assoc]
theorem bind_ok {α β : Type} {p : PR α} {k : α → List UInt8 → PR β} {w : β} {s : List UInt8} (h : p.bind k = .ok w s) : ∃ v r, p = .ok v r ∧ k v r = .ok w s := by
  cases p with
  | bad e n => cases h
  | ok v r => exact ⟨v, r, rfl, h⟩
theorem simple_ascii {b c : UInt8} (h : simpleE b = some c) : c.toNat < 128 := by
  unfold simpleE at h
  split at h
  · next h1 => injection h with h; subst h; rcases h1 with h1 | h1 | h1 <;> (subst h1; decide)
  · split at h
    · injection h with h; subst h; decide
    · split at h
      · injection h with h; subst h; decide
      · split at h
        · injection h with h; subst h; decide
        · split at h
          · injection h with h; subst h; decide
          · split at h
            · injection h with h; subst h; decide
            · cases h
theorem hex_lt {b : UInt8} {v : Nat} (h : hexJ b = some v) : v < 16 := by
  unfold hexJ at h
  split at h
  · injection h with h; omega
  · split at h
    · injection h with h; omega
    · split at h
      · injection h with h; omega
      · cases h
theorem fourR_lt (f : Nat) : ∀ (k n : Nat) (l : List UInt8) (c : Nat) (r : List UInt8), fourR f k n l = .ok c r → c < (n + 1) * 16 ^ k
  | 0, n, l, c, r, h => by cases h; simp
  | k + 1, n, [], c, r, h => by cases h
  | k + 1, n, b :: t, c, r, h => by
    rw [fourR] at h
    cases hv : hexJ b with
    | none => rw [hv] at h; cases h
    | some v =>
      rw [hv] at h
      have h1 := fourR_lt f k _ t c r h
      have h2 := hex_lt hv
      have h3 : (16 * n + v + 1) * 16 ^ k ≤ (16 * n + 16) * 16 ^ k := Nat.mul_le_mul_right _ (by omega)
      have h4 : (n + 1) * 16 ^ (k + 1) = (16 * n + 16) * 16 ^ k := by rw [Nat.pow_succ, Nat.mul_comm (16 ^ k) 16, ← Nat.mul_assoc]; congr 1; omega
      omega
theorem escR_valid {l c r : List UInt8} (h : escR l = .ok c r) : Lib.validD c = true := by
  match l, h with
  | [], h => cases h
  | [a], h => cases h
  | a :: b :: t, h =>
    rw [escR] at h
    split at h
    · obtain ⟨n, u, h1, h2⟩ := bind_ok h
      have hn := fourR_lt _ _ _ _ _ _ h1
      unfold codeR at h2
      split at h2
      · cases h2
      · next c1 =>
        split at h2
        · next c2 =>
          obtain ⟨m, t', h3, h4⟩ := bind_ok h2
          split at h4
          · next c3 =>
            have h5 := (PR.ok.inj h4).1
            rw [← h5]
            have h6 : Scalar (65536 + 1024 * (n - 55296) + (m - 56320)) := by unfold Scalar; omega
            exact valid_enc h6
          · cases h4
        · next c2 =>
          injection h2 with h2 _
          rw [← h2]
          exact valid_enc (by unfold Scalar; omega)
    · split at h
      · cases h
      · next cc hc =>
        injection h with h _
        rw [← h]
        exact valid_ascii (simple_ascii hc)
theorem txtR_valid : ∀ (n : Nat) (l acc s r : List UInt8), txtR n l acc = .ok s r → Lib.validD acc = true → Lib.validD s = true
  | 0, l, acc, s, r, h, _ => by cases h
  | n + 1, [], acc, s, r, h, _ => by cases h
  | n + 1, b :: t, acc, s, r, h, ha => by
    rw [txtR] at h
    split at h
    · injection h with h _; rw [← h]; exact ha
    · split at h
      · obtain ⟨c, u, h1, h2⟩ := bind_ok h
        exact txtR_valid n _ _ _ _ h2 (valid_app _ _ _ (Nat.le_refl _) ha (escR_valid h1))
      · split at h
        · cases h
        · next hc =>
          have hu : utfN (b :: t) ≠ 0 := fun e => hc (.inr e)
          exact txtR_valid n _ _ _ _ h (valid_app _ _ _ (Nat.le_refl _) ha (valid_char hu))
theorem textR_valid {l s r : List UInt8} (h : textR l = .ok s r) : Lib.validD s = true := by
  obtain ⟨_, t, _, h2⟩ := bind_ok h
  exact txtR_valid _ _ _ _ _ h2 rfl
def OkV (d : Nat) (l : List UInt8) (v : JsonD) (r : List UInt8) : Prop := wfJ v d = true ∧ numJ v = true ∧ cntJ v + r.length ≤ l.length
theorem itemsR_right {α : Type} {one : List UInt8 → PR α} (f : α → JsonD) (p : α → Prop) (d : Nat) (h1 : ∀ l v r, one l = .ok v r → OkV d l (f v) r ∧ p v) (c : UInt8) : ∀ (n : Nat) (l : List UInt8) (acc vs : List α) (r : List UInt8) (q : Nat),
    itemsR one c n l acc = .ok vs r → wfKs (acc.map f) d = true → numKs (acc.map f) = true → (∀ v ∈ acc, p v) → cntKs (acc.map f) + l.length ≤ q → wfKs (vs.map f) d = true ∧ numKs (vs.map f) = true ∧ cntKs (vs.map f) + r.length ≤ q ∧ ∀ v ∈ vs, p v
  | 0, l, acc, vs, r, q, h, _, _, _, _ => by cases h
  | n + 1, l, acc, vs, r, q, h, hw, hn, hp, hc => by
    rw [itemsR] at h
    obtain ⟨v, r1, h2, h3⟩ := bind_ok h
    obtain ⟨⟨k1, k2, k3⟩, k4⟩ := h1 _ _ _ h2
    have e1 : wfKs ((acc ++ [v]).map f) d = true := by rw [List.map_append, wfKs_app, hw]; simp [wfKs, k1]
    have e2 : numKs ((acc ++ [v]).map f) = true := by rw [List.map_append, numKs_app, hn]; simp [numKs, k2]
    have e3 : cntKs ((acc ++ [v]).map f) = cntKs (acc.map f) + cntJ (f v) := by rw [List.map_append, cntKs_app]; simp [cntKs]
    have e4 : ∀ w ∈ acc ++ [v], p w := fun w hw => by
      rcases List.mem_append.1 hw with h | h
      · exact hp w h
      · rw [List.mem_singleton.1 h]; exact k4
    have hsk := skip_len r1
    split at h3
    · injection h3 with h3 h4
      subst h3; subst h4
      refine ⟨e1, e2, ?_, e4⟩
      rw [e3, List.length_tail]; omega
    · obtain ⟨_, u, h5, h6⟩ := bind_ok h3
      have l1 := takeR_eats _ _ _ _ h5
      have l2 := skip_len u
      exact itemsR_right f p d h1 c n _ _ vs r q h6 e1 e2 e4 (by rw [e3]; omega)
theorem rowR_right {α : Type} {one : List UInt8 → PR α} (f : α → JsonD) (p : α → Prop) (d : Nat) (h1 : ∀ l v r, one l = .ok v r → OkV d l (f v) r ∧ p v) (c : UInt8) (l : List UInt8) (vs : List α) (r : List UInt8) (h : rowR one c l = .ok vs r) :
    wfKs (vs.map f) d = true ∧ numKs (vs.map f) = true ∧ cntKs (vs.map f) + r.length ≤ l.length ∧ ∀ v ∈ vs, p v := by
  unfold rowR at h
  have hsk := skip_len l
  split at h
  · injection h with h h'
    subst h; subst h'
    refine ⟨rfl, rfl, ?_, fun v hv => by cases hv⟩
    simp [cntKs]; omega
  · exact itemsR_right f p d h1 c _ _ _ vs r _ h rfl rfl (fun v hv => by cases hv) (by simp [cntKs]; omega)
theorem constR_right {w : List UInt8} {k : Int} {l r : List UInt8} {v : JsonD} (h : constR w k l = .ok v r) : v = .mk k [] [] [] := by
  obtain ⟨_, t, _, h2⟩ := bind_ok h
  injection h2 with h2 _
  exact h2.symm
def Cut {α : Type} (f : List UInt8 → PR α) : Prop := ∀ (y r s : List UInt8) (v : α), f (y ++ r) = .ok v (s ++ r) → f y = .ok v s
theorem drop_cut (y r s : List UInt8) (h : (y ++ r).dropWhile tenJ = s ++ r) : y.dropWhile tenJ = s := by
  rw [drop_while_app] at h
  by_cases h0 : y.dropWhile tenJ = []
  · rw [if_pos h0] at h
    have hl := (List.dropWhile_suffix (l := r) tenJ).length_le
    rw [h, List.length_append] at hl
    rw [h0, List.eq_nil_of_length_eq_zero (by omega : s.length = 0)]
  · rw [if_neg h0] at h
    exact List.append_cancel_right h
theorem digR_cut : Cut digR := by
  intro y r s v h
  by_cases hy : y = []
  · subst hy
    have := digR_eats _ _ _ h
    rw [List.length_append, List.nil_append] at this; omega
  · unfold digR at h ⊢
    rw [hd_app hy] at h
    split at h
    · next ht =>
      injection h with h1 h2
      rw [if_pos ht, drop_cut y r s h2]
    · cases h
theorem intR_cut : Cut intR := by
  intro y r s v h
  by_cases hy : y = []
  · subst hy
    have := intR_eats _ _ _ h
    rw [List.length_append, List.nil_append] at this; omega
  · unfold intR at h ⊢
    rw [hd_app hy, tail_app hy] at h
    split at h
    · next ht =>
      injection h with h1 h2
      rw [if_pos ht, List.append_cancel_right h2]
    · next ht => rw [if_neg ht]; exact digR_cut y r s v h
theorem fracR_cut : Cut fracR := by
  intro y r s v h
  by_cases hy : y = []
  · subst hy
    unfold fracR at h
    rw [List.nil_append] at h
    split at h
    · have h1 := digR_eats _ _ _ h
      rw [List.length_append, List.length_tail] at h1; omega
    · injection h with h1 h2
      have : s = [] := List.eq_nil_of_length_eq_zero (by have := congrArg List.length h2; rw [List.length_append] at this; omega)
      subst this
      rfl
  · unfold fracR at h ⊢
    rw [hd_app hy, tail_app hy] at h
    split at h
    · next ht => rw [if_pos ht]; exact digR_cut _ r s v h
    · next ht =>
      injection h with h1 h2
      rw [if_neg ht, List.append_cancel_right h2]
theorem expR_cut : Cut expR := by
  intro y r s v h
  by_cases hy : y = []
  · subst hy
    unfold expR at h
    rw [List.nil_append] at h
    split at h
    · have h1 := digR_eats _ _ _ h
      have h2 := (sign_suf r.tail).length_le
      rw [List.length_append] at h1
      rw [List.length_tail] at h2; omega
    · injection h with h1 h2
      have : s = [] := List.eq_nil_of_length_eq_zero (by have := congrArg List.length h2; rw [List.length_append] at this; omega)
      subst this
      rfl
  · unfold expR at h ⊢
    rw [hd_app hy, tail_app hy] at h
    split at h
    · next ht =>
      rw [if_pos ht]
      by_cases hz : y.tail = []
      · exfalso
        rw [hz, List.nil_append] at h
        have h1 := digR_eats _ _ _ h
        have h2 := (sign_suf r).length_le
        rw [List.length_append] at h1; omega
      · rw [sign_app hz] at h
        exact digR_cut _ r s v h
    · next ht =>
      injection h with h1 h2
      rw [if_neg ht, List.append_cancel_right h2]
theorem suf_split {s r l : List UInt8} (h : s ++ r <:+ l) : ∃ w, l = w ++ r := by
  obtain ⟨w, hw⟩ := h
  exact ⟨w ++ s, by rw [List.append_assoc]; exact hw.symm⟩
theorem numR_cut : Cut numR := by
  intro y r s v h
  by_cases hy : y = []
  · subst hy
    have := numR_eats _ _ _ h
    rw [List.length_append, List.nil_append] at this; omega
  · unfold numR at h ⊢
    rw [minus_app hy] at h
    obtain ⟨_, l2, h1, h2⟩ := bind_ok h
    obtain ⟨_, l3, h3, h4⟩ := bind_ok h2
    have g3 := expR_good l3
    rw [h4] at g3
    have g2 := fracR_good l2
    rw [h3] at g2
    obtain ⟨w3, rfl⟩ := suf_split g3
    obtain ⟨w2, rfl⟩ := suf_split (List.IsSuffix.trans g3 g2)
    rw [intR_cut _ _ _ _ h1]
    show ((fracR w2).bind fun _ l3 => expR l3) = _
    rw [fracR_cut _ _ _ _ h3]
    exact expR_cut _ _ _ _ h4
theorem isNum_take {l r : List UInt8} (h : numR l = .ok () r) : isNumL (l.take (l.length - r.length)) = true := by
  have hg := numR_good l
  rw [h] at hg
  obtain ⟨a, ha⟩ : r <:+ l := hg
  have hta : l.take (l.length - r.length) = a := by rw [← ha, List.length_append]; simp
  rw [hta]
  have h2 : numR (a ++ r) = .ok () ([] ++ r) := by rw [ha]; exact h
  unfold isNumL
  rw [numR_cut _ _ _ _ h2]
theorem atomR_right {d : Nat} {l r : List UInt8} {v : JsonD} (h : atomR l = .ok v r) : OkV d l v r := by
  have he := atomR_eats l v r h
  have simple : ∀ k t, v = .mk k t [] [] → (k = 1 ∨ k = 2 ∨ k = 3) ∧ t = [] ∨ k = 4 ∧ isNumL t = true ∨ k = 5 ∧ Lib.validD t = true → OkV d l v r := by
    intro k t e hk
    subst e
    refine ⟨?_, ?_, by simp [cntJ, cntKs]; omega⟩
    · rcases hk with ⟨h1, rfl⟩ | ⟨rfl, _⟩ | ⟨rfl, h2⟩
      · rw [wfJ, if_pos h1]; rfl
      · rfl
      · rw [wfJ, if_neg (by decide), if_neg (by decide), if_pos rfl, h2]; rfl
    · rcases hk with ⟨h1, rfl⟩ | ⟨rfl, h2⟩ | ⟨rfl, h2⟩
      · rw [numJ, numKs]; rcases h1 with h1 | h1 | h1 <;> (subst h1; rfl)
      · rw [numJ, numKs, h2]; rfl
      · rfl
  unfold atomR at h
  split at h
  · obtain ⟨s, t, h1, h2⟩ := bind_ok h
    injection h2 with h2 _
    exact simple 5 s h2.symm (.inr (.inr ⟨rfl, textR_valid h1⟩))
  · split at h
    · exact simple 1 [] (constR_right h) (.inl ⟨.inl rfl, rfl⟩)
    · split at h
      · exact simple 3 [] (constR_right h) (.inl ⟨.inr (.inr rfl), rfl⟩)
      · split at h
        · exact simple 2 [] (constR_right h) (.inl ⟨.inr (.inl rfl), rfl⟩)
        · split at h
          · obtain ⟨_, t, h1, h2⟩ := bind_ok h
            injection h2 with h2 _
            exact simple 4 _ h2.symm (.inr (.inl ⟨rfl, isNum_take h1⟩))
          · cases h
theorem pairR_right {one : List UInt8 → PR JsonD} {d : Nat} (h1 : ∀ l v r, one l = .ok v r → OkV d l v r) (l : List UInt8) (v : List UInt8 × JsonD) (r : List UInt8) (h : pairR one l = .ok v r) : OkV d l v.2 r ∧ Lib.validD v.1 = true := by
  obtain ⟨s, r1, h2, h3⟩ := bind_ok h
  obtain ⟨_, u, h4, h5⟩ := bind_ok h3
  obtain ⟨j, t, h6, h7⟩ := bind_ok h5
  injection h7 with h7 h8
  subst h7; subst h8
  obtain ⟨k1, k2, k3⟩ := h1 _ _ _ h6
  have l1 := textR_eats _ _ _ h2
  have l2 := skip_len r1
  have l3 := takeR_eats _ _ _ _ h4
  have l4 := skip_len u
  exact ⟨⟨k1, k2, by show cntJ j + t.length ≤ l.length; omega⟩, textR_valid h2⟩
theorem valR_right : ∀ (d : Nat) (l : List UInt8) (v : JsonD) (r : List UInt8), valR d l = .ok v r → OkV d l v r
  | 0, l, v, r, h => by
    unfold valR at h
    split at h
    · cases h
    · exact atomR_right h
  | d + 1, l, v, r, h => by
    unfold valR at h
    split at h
    · next hb =>
      obtain ⟨ks, t, h1, h2⟩ := bind_ok h
      injection h2 with h2 h3
      subst h2; subst h3
      obtain ⟨k1, k2, k3, _⟩ := rowR_right (fun j => j) (fun _ => True) d (fun l v r h => ⟨valR_right d l v r h, trivial⟩) 93 _ _ _ h1
      rw [List.map_id'] at k1 k2 k3
      have hl := tail_lt (l := l) (by rw [hb]; decide)
      refine ⟨?_, ?_, ?_⟩
      · rw [wfJ, if_neg (by decide), if_neg (by decide), if_neg (by decide), if_pos rfl, Nat.add_sub_cancel, k1]; simp
      · rw [numJ, k2]; rfl
      · rw [cntJ]; omega
    · split at h
      · next hb =>
        obtain ⟨ks, t, h1, h2⟩ := bind_ok h
        injection h2 with h2 h3
        subst h2; subst h3
        obtain ⟨k1, k2, k3, k4⟩ := rowR_right (fun j : List UInt8 × JsonD => j.2) (fun j => Lib.validD j.1 = true) d (fun l v r h => pairR_right (valR_right d) l v r h) 125 _ _ _ h1
        have hl := tail_lt (l := l) (by rw [hb]; decide)
        refine ⟨?_, ?_, ?_⟩
        · have e : (ks.map (·.1)).all Lib.validD = true := by
            rw [List.all_eq_true]
            intro x hx
            obtain ⟨p, hp, rfl⟩ := List.mem_map.1 hx
            exact k4 p hp
          rw [wfJ, if_neg (by decide), if_neg (by decide), if_neg (by decide), if_neg (by decide), if_pos rfl, Nat.add_sub_cancel, k1, e]; simp
        · rw [numJ, k2]; rfl
        · rw [cntJ]; omega
      · exact atomR_right h
theorem parse_right {s : List UInt8} {v : JsonD} (h : parseE s = .ok v) (hs : s.length ≤ 8000) : wfJ v 20 = true ∧ numJ v = true ∧ cntJ v ≤ 8000 := by
  unfold parseE at h
  cases hv : valR 20 (skipJ s) with
  | bad e n => rw [hv] at h; cases h
  | ok w t =>
    rw [hv] at h
    simp only at h
    split at h
    · cases h
      obtain ⟨h1, h2, h3⟩ := valR_right 20 _ _ _ hv
      have := skip_len s
      exact ⟨h1, h2, by omega⟩
    · cases h
end Go.Proofs.YtlhhiiemojhjdaaGreatDoor
set_option linter.unusedVariables false
set_option linter.unusedSimpArgs false
namespace Go.Proofs.YtlhhiiemojhjdaaGreatDoor
open Go Go.RowKit
theorem wfKs_mem {ks : List JsonD} {d : Nat} (h : wfKs ks d = true) : ∀ v ∈ ks, wfJ v d = true := by
  induction ks with
  | nil => intro v hv; cases hv
  | cons j r ih =>
    rw [wfKs, Bool.and_eq_true] at h
    intro v hv
    rcases List.mem_cons.1 hv with e | e
    · rw [e]; exact h.1
    · exact ih h.2 v e
end Go.Proofs.YtlhhiiemojhjdaaGreatDoor
set_option linter.unusedVariables false
set_option linter.unusedSimpArgs false
namespace Go.Proofs.YtlhhiiemojhjdaaGreatDoor
open Go Go.RowKit
def matL : List UInt8 → List UInt8 → Bool
  | [], s => s.isEmpty
  | p :: ps, s =>
    if p = 42 then (List.range (s.length + 1)).any fun k => matL ps (s.drop k)
    else match s with
      | [] => false
      | c :: t => (p == 63 || p == c) && matL ps t
theorem mat_star (ps s : List UInt8) : matL (42 :: ps) s = true ↔ ∃ k, k ≤ s.length ∧ matL ps (s.drop k) = true := by
  have e : matL (42 :: ps) s = (List.range (s.length + 1)).any fun k => matL ps (s.drop k) := by cases s <;> rfl
  rw [e, List.any_eq_true]
  constructor
  · rintro ⟨k, hk, h⟩; exact ⟨k, by rw [List.mem_range] at hk; omega, h⟩
  · rintro ⟨k, hk, h⟩; exact ⟨k, by rw [List.mem_range]; omega, h⟩
def fitB (p c : UInt8) : Bool := p == 63 || p == c
theorem mat_byte {p : UInt8} (hp : p ≠ 42) (ps s : List UInt8) : matL (p :: ps) s = true ↔ ∃ c t, s = c :: t ∧ fitB p c = true ∧ matL ps t = true := by
  unfold fitB
  cases s with
  | nil => rw [matL, if_neg hp]; simp
  | cons c t =>
    rw [matL, if_neg hp]
    simp only [Bool.and_eq_true]
    constructor
    · intro h; exact ⟨c, t, rfl, h.1, h.2⟩
    · rintro ⟨c', t', e, h1, h2⟩; cases e; exact ⟨h1, h2⟩
theorem mat_nil (s : List UInt8) : matL [] s = true ↔ s = [] := by rw [matL, List.isEmpty_iff]
theorem mat_app (q : List UInt8) : ∀ (p s : List UInt8), matL (p ++ q) s = true ↔ ∃ k, k ≤ s.length ∧ matL p (s.take k) = true ∧ matL q (s.drop k) = true
  | [], s => by
    rw [List.nil_append]
    constructor
    · intro h; exact ⟨0, Nat.zero_le _, by rw [List.take_zero]; rfl, h⟩
    · rintro ⟨k, hk, h1, h2⟩
      rw [mat_nil] at h1
      have hk0 : k = 0 := by have := congrArg List.length h1; rw [List.length_take, List.length_nil] at this; omega
      subst hk0; exact h2
  | c :: p, s => by
    rw [List.cons_append]
    by_cases hc : c = 42
    · subst hc
      rw [mat_star]
      constructor
      · rintro ⟨j, hj, h⟩
        rw [mat_app q p] at h
        obtain ⟨k, hk, h1, h2⟩ := h
        rw [List.length_drop] at hk
        refine ⟨j + k, by omega, ?_, by rw [List.drop_drop] at h2; exact h2⟩
        rw [mat_star]
        refine ⟨j, by rw [List.length_take]; omega, ?_⟩
        rw [List.drop_take, show j + k - j = k by omega]; exact h1
      · rintro ⟨k, hk, h1, h2⟩
        rw [mat_star] at h1
        obtain ⟨j, hj, h3⟩ := h1
        rw [List.length_take] at hj
        refine ⟨j, by omega, ?_⟩
        rw [mat_app q p]
        refine ⟨k - j, by rw [List.length_drop]; omega, ?_, ?_⟩
        · rw [List.drop_take] at h3; exact h3
        · rw [List.drop_drop, show j + (k - j) = k by omega]; exact h2
    · rw [mat_byte hc]
      constructor
      · rintro ⟨b, t, rfl, h1, h2⟩
        rw [mat_app q p] at h2
        obtain ⟨k, hk, h3, h4⟩ := h2
        refine ⟨k + 1, by simp; omega, ?_, h4⟩
        rw [List.take_succ_cons, mat_byte hc]
        exact ⟨b, _, rfl, h1, h3⟩
      · rintro ⟨k, hk, h1, h2⟩
        rw [mat_byte hc] at h1
        obtain ⟨b, t, e, h3, h4⟩ := h1
        cases s with
        | nil => simp at e
        | cons b' s' =>
          cases k with
          | zero => simp at e
          | succ k =>
            rw [List.take_succ_cons] at e
            cases e
            refine ⟨_, s', rfl, h3, ?_⟩
            rw [mat_app q p]
            exact ⟨k, by simp at hk; omega, h4, h2⟩
theorem mat_one {p : UInt8} (hp : p ≠ 42) (s : List UInt8) : matL [p] s = true ↔ ∃ c, s = [c] ∧ fitB p c = true := by
  rw [mat_byte hp]
  constructor
  · rintro ⟨c, t, rfl, h1, h2⟩; rw [mat_nil] at h2; subst h2; exact ⟨c, rfl, h1⟩
  · rintro ⟨c, rfl, h1⟩; exact ⟨c, [], rfl, h1, rfl⟩
theorem seg_len : ∀ (p s : List UInt8), (∀ b ∈ p, b ≠ 42) → matL p s = true → s.length = p.length
  | [], s, _, h => by rw [mat_nil] at h; subst h; rfl
  | b :: p, s, hb, h => by
    rw [mat_byte (hb b (by simp))] at h
    obtain ⟨c, t, rfl, _, h2⟩ := h
    have := seg_len p t (fun x hx => hb x (by simp [hx])) h2
    simp [this]
theorem ar1 {i a : Nat} (h : a < i) : i + 1 - (a + 1) = (i - (a + 1)) + 1 := by omega
theorem ar2 {k b : Nat} (h : b ≤ k) : b + (k - b) = k := by omega
theorem ar3 {k b : Nat} (h : b ≤ k) : k + 1 - b = (k - b) + 1 := by omega
structure MatSeg (P S : List UInt8) (i k a back : Nat) : Prop where
  lt : a < i
  le : back ≤ k
  eq : k - back = i - (a + 1)
  ns : ∀ b ∈ (P.drop (a + 1)).take (i - (a + 1)), b ≠ 42
  ok : matL ((P.drop (a + 1)).take (i - (a + 1))) ((S.drop back).take (k - back)) = true
  main : matL P S = true ↔ ∃ b, back ≤ b ∧ b ≤ S.length ∧ matL (P.drop (a + 1)) (S.drop b) = true
def MatInv (P S : List UInt8) (i k : Nat) (st : Option Nat) (back : Nat) : Prop :=
  i ≤ P.length ∧ k ≤ S.length ∧
  match st with
  | none => back = 0 ∧ (matL P S = true ↔ matL (P.drop i) (S.drop k) = true)
  | some a => MatSeg P S i k a back
theorem drop_at {P : List UInt8} {i : Nat} (h : i < P.length) : P.drop i = gB P i :: P.drop (i + 1) := by
  rw [List.drop_eq_getElem_cons h]; unfold gB; simp [List.getD, h]
theorem split_seg (P : List UInt8) {a i : Nat} (h : a + 1 ≤ i) : P.drop (a + 1) = (P.drop (a + 1)).take (i - (a + 1)) ++ P.drop i := by
  have e : P.drop i = (P.drop (a + 1)).drop (i - (a + 1)) := by rw [List.drop_drop]; congr 1; omega
  rw [e, List.take_append_drop]
theorem seg_at {P S : List UInt8} {a i b : Nat} (ha : a + 1 ≤ i) (hi : i ≤ P.length) (hb : b ≤ S.length) (hseg : ∀ c ∈ (P.drop (a + 1)).take (i - (a + 1)), c ≠ 42) (h : matL (P.drop (a + 1)) (S.drop b) = true) :
    b + (i - (a + 1)) ≤ S.length ∧ matL ((P.drop (a + 1)).take (i - (a + 1))) ((S.drop b).take (i - (a + 1))) = true ∧ matL (P.drop i) (S.drop (b + (i - (a + 1)))) = true := by
  rw [split_seg P ha, mat_app] at h
  obtain ⟨k, hk, h1, h2⟩ := h
  have hl := seg_len _ _ hseg h1
  rw [List.length_take, List.length_take, List.length_drop, List.length_drop] at hl
  rw [List.length_drop] at hk
  have hkk : k = i - (a + 1) := by omega
  subst hkk
  exact ⟨by omega, h1, by rw [List.drop_drop] at h2; exact h2⟩
theorem MatInv.start (P S : List UInt8) : MatInv P S 0 0 none 0 := ⟨Nat.zero_le _, Nat.zero_le _, rfl, Iff.rfl⟩
theorem MatInv.star {P S : List UInt8} {i k back : Nat} {st : Option Nat} (h : MatInv P S i k st back) (hi : i < P.length) (hc : gB P i = 42) : MatInv P S (i + 1) k (some i) k := by
  obtain ⟨h1, h2, h3⟩ := h
  refine ⟨hi, h2, (⟨by omega, Nat.le_refl _, by omega, ?_, ?_, ?_⟩ : MatSeg P S (i + 1) k i k)⟩
  · rw [Nat.sub_self]; simp
  · rw [Nat.sub_self, Nat.sub_self]; simp [matL]
  · have hd : P.drop i = 42 :: P.drop (i + 1) := by rw [drop_at hi, hc]
    have hst : matL (P.drop i) (S.drop k) = true ↔ ∃ b, k ≤ b ∧ b ≤ S.length ∧ matL (P.drop (i + 1)) (S.drop b) = true := by
      rw [hd, mat_star]
      constructor
      · rintro ⟨j, hj, h⟩; rw [List.length_drop] at hj; exact ⟨k + j, by omega, by omega, by rw [List.drop_drop] at h; exact h⟩
      · rintro ⟨b, hb1, hb2, h⟩; exact ⟨b - k, by rw [List.length_drop]; omega, by rw [List.drop_drop, show k + (b - k) = b by omega]; exact h⟩
    cases st with
    | none => rw [h3.2, hst]
    | some a =>
      obtain ⟨g1, g2, g3, g4, g5, g6⟩ : MatSeg P S i k a back := h3
      rw [g6]
      constructor
      · rintro ⟨b, hb1, hb2, hm⟩
        obtain ⟨m1, m2, m3⟩ := seg_at (i := i) (by omega) h1 hb2 g4 hm
        rw [hd, mat_star] at m3
        obtain ⟨j, hj, m4⟩ := m3
        rw [List.length_drop] at hj
        exact ⟨b + (i - (a + 1)) + j, by omega, by omega, by rw [List.drop_drop] at m4; exact m4⟩
      · intro hx
        refine ⟨back, Nat.le_refl _, by omega, ?_⟩
        rw [split_seg P (i := i) (by omega), mat_app]
        refine ⟨k - back, by rw [List.length_drop]; omega, g5, ?_⟩
        rw [List.drop_drop, ar2 g2]
        exact hst.2 hx
theorem fit_drop {P S : List UInt8} {i k : Nat} (hi : i < P.length) (hk : k < S.length) (h42 : gB P i ≠ 42) (hf : fitB (gB P i) (gB S k) = true) : matL (P.drop i) (S.drop k) = true ↔ matL (P.drop (i + 1)) (S.drop (k + 1)) = true := by
  rw [drop_at hi, drop_at hk, mat_byte h42]
  constructor
  · rintro ⟨c, t, e, _, h⟩; cases e; exact h
  · intro h; exact ⟨_, _, rfl, hf, h⟩
theorem take_snoc' {P : List UInt8} {a n : Nat} (h : a + n < P.length) : (P.drop a).take (n + 1) = (P.drop a).take n ++ [gB P (a + n)] := by
  have hl : n < (P.drop a).length := by rw [List.length_drop]; omega
  rw [List.take_succ_eq_append_getElem hl]
  congr 2
  rw [List.getElem_drop]; unfold gB; simp [List.getD, h]
theorem MatInv.step {P S : List UInt8} {i k back : Nat} {st : Option Nat} (h : MatInv P S i k st back) (hi : i < P.length) (hk : k < S.length) (h42 : gB P i ≠ 42) (hf : fitB (gB P i) (gB S k) = true) : MatInv P S (i + 1) (k + 1) st back := by
  obtain ⟨h1, h2, h3⟩ := h
  refine ⟨hi, hk, ?_⟩
  cases st with
  | none => exact ⟨h3.1, h3.2.trans (fit_drop hi hk h42 hf)⟩
  | some a =>
    obtain ⟨g1, g2, g3, g4, g5, g6⟩ : MatSeg P S i k a back := h3
    have e1 := ar1 g1
    have e2 := ar3 g2
    have t1 := take_snoc' (P := P) (a := a + 1) (n := i - (a + 1)) (by omega)
    have t2 := take_snoc' (P := S) (a := back) (n := k - back) (by omega)
    rw [show a + 1 + (i - (a + 1)) = i by omega] at t1
    rw [show back + (k - back) = k by omega] at t2
    refine (⟨by omega, by omega, by omega, ?_, ?_, g6⟩ : MatSeg P S (i + 1) (k + 1) a back)
    · rw [e1, t1]
      intro b hb
      rcases List.mem_append.1 hb with hb | hb
      · exact g4 b hb
      · rw [List.mem_singleton.1 hb]; exact h42
    · rw [e1, t1, e2, t2, mat_app]
      refine ⟨((S.drop back).take (k - back)).length, by simp, ?_, ?_⟩
      · rw [List.take_left']; exact g5; rfl
      · rw [List.drop_left' rfl]; exact (mat_one h42 _).2 ⟨_, rfl, hf⟩
theorem MatInv.again {P S : List UInt8} {i k back a : Nat} (h : MatInv P S i k (some a) back) (hk : k < S.length) (hno : matL (P.drop i) (S.drop k) = false) : MatInv P S (a + 1) (back + 1) (some a) (back + 1) := by
  obtain ⟨h1, h2, h3⟩ := h
  obtain ⟨g1, g2, g3, g4, g5, g6⟩ : MatSeg P S i k a back := h3
  refine ⟨by omega, by omega, (⟨by omega, Nat.le_refl _, by omega, ?_, ?_, ?_⟩ : MatSeg P S (a + 1) (back + 1) a (back + 1))⟩
  · rw [Nat.sub_self]; simp
  · rw [Nat.sub_self, Nat.sub_self]; simp [matL]
  · rw [g6]
    constructor
    · rintro ⟨b, hb1, hb2, hm⟩
      refine ⟨b, ?_, hb2, hm⟩
      rcases Nat.lt_or_ge back b with h | h
      · exact h
      · have : b = back := by omega
        subst this
        obtain ⟨m1, m2, m3⟩ := seg_at (i := i) (by omega) h1 hb2 g4 hm
        rw [← g3, ar2 g2, hno] at m3
        cases m3
    · rintro ⟨b, hb1, hb2, hm⟩; exact ⟨b, by omega, hb2, hm⟩
theorem MatInv.never {P S : List UInt8} {i k back : Nat} (h : MatInv P S i k none back) (hno : matL (P.drop i) (S.drop k) = false) : matL P S = false := by
  have := h.2.2.2
  rw [hno] at this
  cases hm : matL P S with
  | false => rfl
  | true => rw [hm] at this; exact absurd (this.1 rfl) (by simp)
theorem no_fit {P S : List UInt8} {i k : Nat} (hk : k < S.length) (h : P.length ≤ i ∨ (gB P i ≠ 42 ∧ fitB (gB P i) (gB S k) = false)) : matL (P.drop i) (S.drop k) = false := by
  cases hm : matL (P.drop i) (S.drop k) with
  | false => rfl
  | true =>
    exfalso
    by_cases hi : i < P.length
    · obtain ⟨h1, h2⟩ := h.resolve_left (by omega)
      rw [drop_at hi, drop_at hk, mat_byte h1] at hm
      obtain ⟨c, t, e, h3, _⟩ := hm
      cases e
      rw [h2] at h3; cases h3
    · rw [List.drop_of_length_le (by omega), mat_nil] at hm
      have := congrArg List.length hm
      rw [List.length_drop] at this; simp at this; omega
theorem MatInv.done {P S : List UInt8} {i back : Nat} {st : Option Nat} (h : MatInv P S i S.length st back) : matL P S = true ↔ matL (P.drop i) [] = true := by
  obtain ⟨h1, h2, h3⟩ := h
  cases st with
  | none => rw [h3.2, List.drop_length]
  | some a =>
    obtain ⟨g1, g2, g3, g4, g5, g6⟩ : MatSeg P S i S.length a back := h3
    rw [g6]
    constructor
    · rintro ⟨b, hb1, hb2, hm⟩
      obtain ⟨m1, m2, m3⟩ := seg_at (i := i) (by omega) h1 hb2 g4 hm
      have : b + (i - (a + 1)) = S.length := by omega
      rw [this, List.drop_length] at m3
      exact m3
    · intro hx
      refine ⟨back, Nat.le_refl _, by omega, ?_⟩
      rw [split_seg P (i := i) (by omega), mat_app]
      refine ⟨S.length - back, by rw [List.length_drop]; omega, g5, ?_⟩
      rw [List.drop_drop, ar2 g2, List.drop_length]
      exact hx
theorem mat_end {P : List UInt8} {i : Nat} (hi : i < P.length) : matL (P.drop i) [] = true ↔ gB P i = 42 ∧ matL (P.drop (i + 1)) [] = true := by
  rw [drop_at hi]
  by_cases h : gB P i = 42
  · rw [h, mat_star]
    constructor
    · rintro ⟨k, hk, hm⟩; have : k = 0 := by simpa using hk
      subst this; exact ⟨rfl, hm⟩
    · rintro ⟨_, hm⟩; exact ⟨0, Nat.le_refl _, hm⟩
  · rw [mat_byte h]
    constructor
    · rintro ⟨c, t, e, _⟩; cases e
    · rintro ⟨h2, _⟩; exact absurd h2 h
end Go.Proofs.YtlhhiiemojhjdaaGreatDoor
set_option linter.unusedVariables false
set_option linter.unusedSimpArgs false
namespace Go.Proofs.YtlhhiiemojhjdaaGreatDoor
open Go Go.RowKit
abbrev Txt := List UInt8
def JsonD.kind : JsonD → Int | .mk k _ _ _ => k
def JsonD.text : JsonD → Txt | .mk _ t _ _ => t
def JsonD.names : JsonD → List Txt | .mk _ _ n _ => n
def JsonD.kids : JsonD → List JsonD | .mk _ _ _ k => k
def onlyJ (j : JsonD) (ns : List Txt) : Bool := decide (j.kind = 7) && decide j.names.Nodup && j.names.all (fun n => decide (n ∈ ns))
def getJ (j : JsonD) (n : Txt) : Option JsonD := (j.names.zip j.kids).lookup n
def textsJ (j : JsonD) : Option (List Txt) :=
  if j.kind = 5 then some [j.text]
  else if j.kind = 6 then if j.kids ≠ [] ∧ j.kids.all (fun k => decide (k.kind = 5)) = true then some (j.kids.map (·.text)) else none
  else none
structure StmtD where
  allow : Bool
  who : List Txt
  acts : List Txt
  ress : List Txt
def nSid : Txt := [83, 105, 100]
def nEffect : Txt := [69, 102, 102, 101, 99, 116]
def nPrincipal : Txt := [80, 114, 105, 110, 99, 105, 112, 97, 108]
def nAction : Txt := [65, 99, 116, 105, 111, 110]
def nResource : Txt := [82, 101, 115, 111, 117, 114, 99, 101]
def nAWS : Txt := [65, 87, 83]
def nAllow : Txt := [65, 108, 108, 111, 119]
def nDeny : Txt := [68, 101, 110, 121]
def nVersion : Txt := [86, 101, 114, 115, 105, 111, 110]
def nId : Txt := [73, 100]
def nStatement : Txt := [83, 116, 97, 116, 101, 109, 101, 110, 116]
def nDate : Txt := [50, 48, 49, 50, 45, 49, 48, 45, 49, 55]
def isTextJ (o : Option JsonD) (must : Bool) (some_ : List Txt) : Bool :=
  match o with
  | none => !must
  | some j => decide (j.kind = 5) && (some_.isEmpty || decide (j.text ∈ some_))
def whoJ (o : Option JsonD) : Option (List Txt) :=
  match o with
  | none => none
  | some j =>
    if j.kind = 5 ∧ j.text = [42] then some [[42]]
    else if onlyJ j [nAWS] then (getJ j nAWS).bind textsJ
    else none
def stmtJ (j : JsonD) : Option StmtD :=
  if onlyJ j [nSid, nEffect, nPrincipal, nAction, nResource] && isTextJ (getJ j nSid) false [] && isTextJ (getJ j nEffect) true [nAllow, nDeny] then
    match whoJ (getJ j nPrincipal), (getJ j nAction).bind textsJ, (getJ j nResource).bind textsJ with
    | some a, some b, some c => some ⟨decide (((getJ j nEffect).map (·.text)) = some nAllow), a, b, c⟩
    | _, _, _ => none
  else none
def stmtsJ : List JsonD → Option (List StmtD)
  | [] => some []
  | j :: r => match stmtJ j with
    | none => none
    | some s => match stmtsJ r with
      | none => none
      | some l => some (s :: l)
def allJ (o : Option JsonD) : List JsonD :=
  match o with
  | none => []
  | some l => if l.kind = 6 then l.kids else if l.kind = 7 then [l] else []
def policyJ (j : JsonD) : Option (List StmtD) :=
  if onlyJ j [nVersion, nId, nStatement] && isTextJ (getJ j nVersion) false [nDate] && isTextJ (getJ j nId) false [] then
    if 1 ≤ (allJ (getJ j nStatement)).length ∧ (allJ (getJ j nStatement)).length ≤ 10 then stmtsJ (allJ (getJ j nStatement)) else none
  else none
def anyM (l : List Txt) (s : Txt) : Bool := l.any fun p => matL p s
def whoM (l : List Txt) (user : Txt) : Bool := l.any fun p => p == [42] || (!user.isEmpty && p == user)
def fitS (s : StmtD) (user action resource : Txt) : Bool := whoM s.who user && anyM s.acts action && anyM s.ress resource
def decideL : List StmtD → Txt → Txt → Txt → Nat
  | [], _, _, _ => 0
  | s :: l, u, a, r => if fitS s u a r then if s.allow then max 1 (decideL l u a r) else 2 else decideL l u a r
end Go.Proofs.YtlhhiiemojhjdaaGreatDoor
set_option linter.unusedVariables false
namespace Go.Proofs.YtlhhiiemojhjdaaGreatDoor
open Go Go.RowKit
def StrsAt (w : World) (A : Option Addr) (n : Nat) (ls : List (List UInt8)) : Prop :=
  n = ls.length ∧ (0 < n → ∃ ad, A = some ad ∧ ∀ i (h : i < ls.length), w.cell? (ad.add i) = some (.string ⟨(ls[i]).toArray⟩))
theorem StrsAt.q {w w' : World} {A : Option Addr} {n : Nat} {ls : List (List UInt8)} (h : StrsAt w A n ls) (hq : Q w w') : StrsAt w' A n ls :=
  ⟨h.1, fun h0 => let ⟨ad, e, hc⟩ := h.2 h0; ⟨ad, e, fun i hi => hq.cell (hc i hi)⟩⟩
def gL (ls : List (List UInt8)) (i : Nat) : List UInt8 := ls.getD i []
theorem StrsAt.at {w : World} {A : Option Addr} {n : Nat} {ls : List (List UInt8)} (h : StrsAt w A n ls) {i : Nat} (hi : i < n) :
    ∃ ad, A = some ad ∧ w.cell? (ad.add i) = some (.string ⟨(gL ls i).toArray⟩) := by
  obtain ⟨ad, e, hc⟩ := h.2 (by omega)
  have hi' : i < ls.length := by rw [← h.1]; exact hi
  exact ⟨ad, e, by rw [hc i hi']; simp [gL, List.getD, hi']⟩
structure OneCell (P : Program) (t e : TypeId) (z : Value) (bytes : Nat) : Prop where
  under : P.underlying t = some (.slice e)
  info : (P.info? e).map (fun i => (i.zero, i.size, i.bytes)) = some (some z, 1, bytes)
  zsize : z.cells.size = 1
def OwnS (e : TypeId) (w0 w : World) (v : Value) (us : List Value) : Prop := w.ownsRow w0.heap.size e 1 v us.length us
theorem OwnS.nil (e : TypeId) (w0 w : World) : OwnS e w0 w (.slice none 0 0) [] := ⟨rfl, .inl ⟨rfl, rfl⟩⟩
theorem OwnS.q {e : TypeId} {w0 w w' : World} {v : Value} {us : List Value} (h : OwnS e w0 w v us) (hq : Q w w') : OwnS e w0 w' v us := by
  have hg : w.grownBy w' none := ⟨hq.os, hq.tape, hq.output, hq.size, fun k hk _ => Below.block hq k hk⟩
  refine h.kept hg ?_
  rcases hv : v.ownBlock with _ | k
  · exact .inl rfl
  · exact .inr (by simp)
theorem OwnS.block {e : TypeId} {w0 w : World} {v : Value} {us : List Value} (h : OwnS e w0 w v us) {k : Nat} (hk : v.ownBlock = some k) : w0.heap.size ≤ k := by
  rcases h.2 with ⟨rfl, _⟩ | ⟨g, cap, cur, rfl, hb, _⟩
  · cases hk
  · simp [Value.ownBlock] at hk; omega
theorem wpList_append_one {P : Program} {ops : Array Oper} {rest : List Oper} {o : Oper} {a : Act} {R : Exit → Act → World → Prop} (hgd : o.guard = none) (s x : Operand) (t e : TypeId) (z : Value) (bytes : Nat) (hc : OneCell P t e z bytes)
    (ho : o.op = .call { callee := .builtin .append, args := #[s, x], argTypes := #[t, t] })
    (w0 W : World) (v u : Value) (us : List Value) (hs : a.eval s = v) (hown : OwnS e w0 W v us) (hx : a.eval x = .slice (some ⟨W.heap.size, 0, none⟩) 1 1) (h1 : u.oneCell' = true) (hw0 : w0.heap.size ≤ W.heap.size)
    (hl : us.length + 1 ≤ maxLen) (hbytes : (us.length + 1) * bytes ≤ 140737488355328)
    (h : ∀ v' w', OwnS e w0 w' v' (us ++ [u]) → Below w0.heap.size W w' → wpList P ops R rest (a.put o.dst v') w') : wpList P ops R (o :: rest) a (W.alloc (.cells #[u] e)) := by
  obtain ⟨i, hi, hz, hsz, hby⟩ := info_parts hc.info
  refine wpList_append_own (w := W.alloc (.cells #[u] e)) hgd s x t ho w0.heap.size e i z 1 bytes hc.under hi hz hsz hby hc.zsize (by decide) v us.length us hs (World.ownsRow.alloc hown _) ⟨W.heap.size, 0, none⟩ 1 1 [u] hx rfl ?_ (by simpa using h1) hl hbytes (by simp; omega) ?_
  · intro j y hj
    rcases j with _ | j
    · simp at hj; subst hj
      have e2 : (W.alloc (.cells #[u] e)).heap[W.heap.size]? = some (.cells #[u] e) := (MapKept.heap_alloc W _).1
      have ea : (Addr.add ⟨W.heap.size, 0, none⟩ 0) = ⟨W.heap.size, 0, none⟩ := rfl
      rw [ea]
      unfold World.cell?
      rw [e2]
      rfl
    · simp at hj
  · intro v' w' h2 hg _
    refine h v' w' (by unfold OwnS; simpa using h2) ?_
    exact ((Below.refl _ _).alloc hw0 _).grown hg (by simp; omega) fun k hk => hown.block hk
theorem OwnS.form {e : TypeId} {w0 w : World} {v : Value} {us : List Value} (h : OwnS e w0 w v us) :
    ∃ A cap, v = .slice A us.length cap ∧ us.length ≤ cap ∧ cap ≤ maxLen ∧ ∀ i (hi : i < us.length), ∃ ad, A = some ad ∧ w0.heap.size ≤ ad.block ∧ w.cell? (ad.add i) = some us[i] := by
  rcases h.2 with ⟨rfl, h0⟩ | ⟨g, cap, cur, rfl, hb, hh, hn, hm, hcs, ht⟩
  · exact ⟨none, 0, by rw [h0], by omega, by omega, fun i hi => by omega⟩
  · refine ⟨_, cap, rfl, hn, hm, fun i hi => ⟨_, rfl, hb, ?_⟩⟩
    have ea : (Addr.add ⟨g, 0, none⟩ i) = ⟨g, i, none⟩ := by unfold Addr.add; split <;> simp_all
    have hi' : i < cur.size := by omega
    rw [ea]
    simp only [World.cell?, hh, Option.isSome_none, Bool.false_eq_true, if_false]
    have : us[i]? = cur.toList[i]? := by rw [← ht, List.getElem?_take, if_pos (by omega)]
    rw [List.getElem?_eq_getElem hi] at this
    rw [this]; simp
def strV (l : List UInt8) : Value := .string ⟨l.toArray⟩
def BldAt (w0 w : World) (b : Nat) (l : List UInt8) : Prop := Lib.IsBuilder 123 5 w0.heap.size b (Lib.byteCells l) w
theorem byteCells_append (a b : List UInt8) : Lib.byteCells (a ++ b) = Lib.byteCells a ++ Lib.byteCells b := by unfold Lib.byteCells; simp
theorem byteCells_length (a : List UInt8) : (Lib.byteCells a).length = a.length := by unfold Lib.byteCells; simp
theorem BldAt.q {w0 w w' : World} {b : Nat} {l : List UInt8} (h : BldAt w0 w b l) (hq : Q w w') : BldAt w0 w' b l := by
  have hg : w.grownBy w' none := ⟨hq.os, hq.tape, hq.output, hq.size, fun k hk _ => Below.block hq k hk⟩
  have go : ∀ p, Lib.BuilderAt 123 5 w0.heap.size b p (Lib.byteCells l) w → Lib.BuilderAt 123 5 w0.heap.size b p (Lib.byteCells l) w' := by
    rintro p ⟨h1, v, h2, h3, h4⟩
    refine ⟨h1, v, hq.block h2, h3.kept hg ?_, h4⟩
    rcases hv : v.ownBlock with _ | k
    · exact .inl rfl
    · exact .inr (by simp)
  rcases h with h | h
  · exact .inl (go _ h)
  · exact .inr (go _ h)
end Go.Proofs.YtlhhiiemojhjdaaGreatDoor
set_option linter.unusedVariables false
namespace Go.Proofs.YtlhhiiemojhjdaaGreatDoor
open Go Go.RowKit
theorem lt_of_heap {w : World} {g : Nat} {o : Obj} (h : w.heap[g]? = some o) : g < w.heap.size := by
  rcases Nat.lt_or_ge g w.heap.size with h1 | h1
  · exact h1
  · rw [Array.getElem?_eq_none h1] at h; cases h
theorem Q.setRow {a b : World} (h : Q a b) {g : Nat} (hg : a.heap.size ≤ g) (cs : Array Value) : Q a (b.setRow g cs) :=
  Q.below h ⟨rfl, rfl, rfl, by simp, fun k hk => by
    simp only [World.setRow, Array.getElem?_modify]
    rw [if_neg (by omega)]⟩
theorem add_off (g o n : Nat) : (⟨g, o, none⟩ : Addr).add n = ⟨g, o + n, none⟩ := by
  unfold Addr.add; split <;> simp_all
structure GX (S : List Nat) (w w' : World) : Prop where
  os : w'.os = w.os
  tape : w'.tape = w.tape
  output : w'.output = w.output
  size : w.heap.size ≤ w'.heap.size
  block : ∀ k, k < w.heap.size → k ∉ S → w'.heap[k]? = w.heap[k]?
theorem GX.refl (S : List Nat) (w : World) : GX S w w := ⟨rfl, rfl, rfl, Nat.le_refl _, fun _ _ _ => rfl⟩
theorem GX.trans {S : List Nat} {a b c : World} (h : GX S a b) (k : GX S b c) : GX S a c :=
  ⟨k.os.trans h.os, k.tape.trans h.tape, k.output.trans h.output, Nat.le_trans h.size k.size, fun i hi hr => (k.block i (Nat.lt_of_lt_of_le hi h.size) hr).trans (h.block i hi hr)⟩
theorem GX.mono {S S' : List Nat} {a b : World} (h : GX S a b) (hs : ∀ x ∈ S, x ∈ S') : GX S' a b :=
  ⟨h.os, h.tape, h.output, h.size, fun k hk hn => h.block k hk (fun hm => hn (hs k hm))⟩
theorem GX.gb {S : List Nat} {a b : World} {k : Nat} (h : a.grownBy b (some k)) (hk : k ∈ S) : GX S a b :=
  ⟨h.os, h.tape, h.output, h.size, fun i hi hn => h.block i hi (by intro e; injection e with e; exact hn (e ▸ hk))⟩
theorem GX.q {S : List Nat} {a b : World} (h : Q a b) : GX S a b := ⟨h.os, h.tape, h.output, h.size, fun k hk _ => Below.block h k hk⟩
theorem GX.drew {S : List Nat} {a b : World} (h : GX S a b) : GX S a b.drew := ⟨h.os, h.tape, h.output, h.size, h.block⟩
theorem GX.set {S : List Nat} {a b : World} (h : GX S a b) {g : Nat} (hg : g ∈ S) (i : Nat) (v : Value) : GX S a (b.setCell ⟨g, i, none⟩ v) :=
  ⟨h.os, h.tape, h.output, by simpa using h.size, fun k hk hr => by
    rw [heap_setCell_other b ⟨g, i, none⟩ k v (by intro e; exact hr (by rw [e]; exact hg))]; exact h.block k hk hr⟩
theorem GX.setRow {S : List Nat} {a b : World} (h : GX S a b) {g : Nat} (hg : g ∈ S) (cs : Array Value) : GX S a (b.setRow g cs) :=
  ⟨h.os, h.tape, h.output, by simpa [World.setRow] using h.size, fun k hk hr => by
    simp only [World.setRow, Array.getElem?_modify]
    rw [if_neg (by intro e; exact hr (by rw [← e]; exact hg))]
    exact h.block k hk hr⟩
theorem GX.toQ {S : List Nat} {w a b : World} (h : GX S a b) (hq : Q w a) (hn : ∀ k ∈ S, w.heap.size ≤ k) : Q w b :=
  Q.below hq ⟨h.os, h.tape, h.output, by have := h.size; have := hq.size; omega, fun k hk => h.block k (Nat.lt_of_lt_of_le hk hq.size) (fun hm => by have := hn k hm; omega)⟩
theorem GX.heap {S : List Nat} {a b : World} (h : GX S a b) {k : Nat} {o : Obj} (hk : k ∉ S) (ho : a.heap[k]? = some o) : b.heap[k]? = some o :=
  (h.block k (lt_of_heap ho) hk).trans ho
end Go.Proofs.YtlhhiiemojhjdaaGreatDoor
set_option linter.unusedVariables false
set_option linter.unusedSimpArgs false
namespace Go.Proofs.YtlhhiiemojhjdaaGreatDoor
open Go Go.RowKit
def jsonC (k : Int) (t : Txt) (vn vk : Value) : List Value := [.int .i64 k, .string ⟨t.toArray⟩, vn, vk]
theorem jsonC_len (k : Int) (t : Txt) (vn vk : Value) : (jsonC k t vn vk).length = 4 := rfl
def cellJ (j : JsonD) (vn vk : Value) : List Value := jsonC j.kind j.text vn vk
def gK (ks : List JsonD) (i : Nat) : JsonD := ks.getD i zeroJ
theorem gK_get (ks : List JsonD) (i : Nat) (h : i < ks.length) : gK ks i = ks[i] := by simp [gK, List.getD, h]
def NsV (w : World) (v : Value) (ns : List Txt) : Prop := ∃ A c, v = .slice A ns.length c ∧ ns.length ≤ c ∧ c ≤ 9223372036854775807 ∧ (0 < ns.length → ∃ g off, A = some ⟨g, off, none⟩ ∧ ∀ i, i < ns.length → w.cell? ⟨g, off + i, none⟩ = some (.string ⟨(gL ns i).toArray⟩))
mutual
def JV (w : World) : JsonD → Value → Value → Prop
  | .mk _ _ ns ks, vn, vk => NsV w vn ns ∧ ∃ B c, vk = .slice B ks.length c ∧ ks.length ≤ c ∧ c ≤ 9223372036854775807 ∧ (0 < ks.length → ∃ g off cells, B = some ⟨g, off, none⟩ ∧ (∀ i u, cells[i]? = some u → w.cell? ⟨g, off + i, none⟩ = some u) ∧ JK w ks cells)
def JK (w : World) : List JsonD → List Value → Prop
  | [], cells => cells = []
  | j :: r, cells => ∃ vn vk rest, cells = cellJ j vn vk ++ rest ∧ JV w j vn vk ∧ JK w r rest
end
theorem NsV.mono {w w' : World} {v : Value} {ns : List Txt} (h : NsV w v ns) (hc : ∀ p x, w.cell? p = some x → w'.cell? p = some x) : NsV w' v ns := by
  obtain ⟨A, c, e, h1, h2, h3⟩ := h
  refine ⟨A, c, e, h1, h2, fun h0 => ?_⟩
  obtain ⟨g, off, e2, h4⟩ := h3 h0
  exact ⟨g, off, e2, fun i hi => hc _ _ (h4 i hi)⟩
mutual
theorem JV.mono {w w' : World} (hc : ∀ p x, w.cell? p = some x → w'.cell? p = some x) : ∀ (j : JsonD) (vn vk : Value), JV w j vn vk → JV w' j vn vk
  | .mk k t ns ks, vn, vk, h => by
    rw [JV] at h ⊢
    obtain ⟨h1, B, c, e, h2, h3, h4⟩ := h
    refine ⟨h1.mono hc, B, c, e, h2, h3, fun h0 => ?_⟩
    obtain ⟨g, off, cells, e2, h5, h6⟩ := h4 h0
    exact ⟨g, off, cells, e2, fun i u hu => hc _ _ (h5 i u hu), JK.mono hc ks cells h6⟩
theorem JK.mono {w w' : World} (hc : ∀ p x, w.cell? p = some x → w'.cell? p = some x) : ∀ (ks : List JsonD) (cells : List Value), JK w ks cells → JK w' ks cells
  | [], cells, h => by rw [JK] at h ⊢; exact h
  | j :: r, cells, h => by
    rw [JK] at h ⊢
    obtain ⟨vn, vk, rest, e, h1, h2⟩ := h
    exact ⟨vn, vk, rest, e, JV.mono hc j vn vk h1, JK.mono hc r rest h2⟩
end
theorem JV.q {w w' : World} {j : JsonD} {vn vk : Value} (h : JV w j vn vk) (hq : Q w w') : JV w' j vn vk := JV.mono (fun _ _ => hq.cell) j vn vk h
theorem JK.at {w : World} : ∀ {ks : List JsonD} {cells : List Value}, JK w ks cells → ∀ {i : Nat}, i < ks.length → ∃ vn vk, JV w (gK ks i) vn vk ∧ ∀ m u, (cellJ (gK ks i) vn vk)[m]? = some u → cells[i * 4 + m]? = some u
  | [], cells, h, i, hi => absurd hi (by simp)
  | j :: r, cells, h, i, hi => by
    rw [JK] at h
    obtain ⟨vn, vk, rest, e, h1, h2⟩ := h
    cases i with
    | zero =>
      refine ⟨vn, vk, h1, fun m u hu => ?_⟩
      have hu : (cellJ j vn vk)[m]? = some u := hu
      have hm := (List.getElem?_eq_some_iff.1 hu).1
      rw [e, Nat.zero_mul, Nat.zero_add, List.getElem?_append_left hm]; exact hu
    | succ i =>
      obtain ⟨vn', vk', h3, h4⟩ := JK.at h2 (i := i) (by simpa using hi)
      refine ⟨vn', vk', h3, fun m u hu => ?_⟩
      rw [e, List.getElem?_append_right (by show (jsonC _ _ vn vk).length ≤ _; rw [jsonC_len]; omega)]
      have : (i + 1) * 4 + m - (cellJ j vn vk).length = i * 4 + m := by show _ - (jsonC _ _ vn vk).length = _; rw [jsonC_len]; omega
      rw [this]; exact h4 m u hu
theorem JV.kid {w : World} {k : Int} {t : Txt} {ns : List Txt} {ks : List JsonD} {vn vk : Value} (h : JV w (.mk k t ns ks) vn vk) : ∃ B c, vk = .slice B ks.length c ∧ ks.length ≤ c ∧ c ≤ 9223372036854775807 ∧ ∀ i, i < ks.length → ∃ g off vn' vk', B = some ⟨g, off, none⟩ ∧
    w.cell? ⟨g, off + i * 4, none⟩ = some (.int .i64 (gK ks i).kind) ∧ w.cell? ⟨g, off + i * 4 + 1, none⟩ = some (.string ⟨(gK ks i).text.toArray⟩) ∧ w.cell? ⟨g, off + i * 4 + 2, none⟩ = some vn' ∧ w.cell? ⟨g, off + i * 4 + 3, none⟩ = some vk' ∧ JV w (gK ks i) vn' vk' := by
  rw [JV] at h
  obtain ⟨h1, B, c, e, h2, h3, h4⟩ := h
  refine ⟨B, c, e, h2, h3, fun i hi => ?_⟩
  obtain ⟨g, off, cells, e2, h5, h6⟩ := h4 (by omega)
  obtain ⟨vn', vk', h7, h8⟩ := h6.at hi
  refine ⟨g, off, vn', vk', e2, ?_, ?_, ?_, ?_, h7⟩
  · exact h5 _ _ (h8 0 _ rfl)
  · rw [Nat.add_assoc]; exact h5 _ _ (h8 1 _ rfl)
  · rw [Nat.add_assoc]; exact h5 _ _ (h8 2 _ rfl)
  · rw [Nat.add_assoc]; exact h5 _ _ (h8 3 _ rfl)
mutual
def JO (w : World) : JsonD → Nat → Nat → Value → Value → Prop
  | .mk _ _ ns ks, lo, hi, vn, vk => lo ≤ hi ∧ w.ownsRow lo 9 1 vn ns.length (ns.map strV) ∧ (∀ b, vn.ownBlock = some b → b < hi) ∧ (∀ b, vk.ownBlock = some b → b < hi) ∧
    ∃ cells, w.ownsRow lo 46 4 vk ks.length cells ∧ JOK w (fun b => vn.ownBlock = some b ∨ vk.ownBlock = some b) ks lo hi cells
def JOK (w : World) (X : Nat → Prop) : List JsonD → Nat → Nat → List Value → Prop
  | [], _, _, cells => cells = []
  | j :: r, lo, hi, cells => ∃ vn vk rest l h, cells = cellJ j vn vk ++ rest ∧ lo ≤ l ∧ l ≤ h ∧ h ≤ hi ∧ (∀ b, X b → b < l ∨ h ≤ b) ∧ JO w j l h vn vk ∧ JOK w X r h hi rest
end
theorem ownsRow_frame {w w' : World} {base : Nat} {e : TypeId} {size : Nat} {v : Value} {n : Nat} {xs : List Value} (h : w.ownsRow base e size v n xs) (hb : ∀ b, v.ownBlock = some b → b < w.heap.size → w'.heap[b]? = w.heap[b]?) : w'.ownsRow base e size v n xs := by
  refine ⟨h.1, ?_⟩
  rcases h.2 with h2 | ⟨g, cap, cur, hv, h1, h2, h3⟩
  · exact .inl h2
  · exact .inr ⟨g, cap, cur, hv, h1, by rw [hb g (by rw [hv]; rfl) (lt_of_heap h2)]; exact h2, h3⟩
theorem ownsRow_low {w : World} {base base' : Nat} {e : TypeId} {size : Nat} {v : Value} {n : Nat} {xs : List Value} (h : w.ownsRow base e size v n xs) (hb : base' ≤ base) : w.ownsRow base' e size v n xs := by
  refine ⟨h.1, ?_⟩
  rcases h.2 with h2 | ⟨g, cap, cur, hv, h1, h2⟩
  · exact .inl h2
  · exact .inr ⟨g, cap, cur, hv, Nat.le_trans hb h1, h2⟩
theorem ownsRow_base {w : World} {base : Nat} {e : TypeId} {size : Nat} {v : Value} {n : Nat} {xs : List Value} (h : w.ownsRow base e size v n xs) {b : Nat} (hb : v.ownBlock = some b) : base ≤ b ∧ b < w.heap.size := by
  rcases h.2 with ⟨hv, _⟩ | ⟨g, cap, cur, hv, h1, h2, _⟩
  · rw [hv] at hb; cases hb
  · have : g = b := by rw [hv] at hb; simpa [Value.ownBlock] using hb
    subst this
    exact ⟨h1, lt_of_heap h2⟩
mutual
theorem JO.frame {w w' : World} : ∀ (j : JsonD) (lo hi : Nat) (vn vk : Value), (∀ b, lo ≤ b → b < hi → b < w.heap.size → w'.heap[b]? = w.heap[b]?) → JO w j lo hi vn vk → JO w' j lo hi vn vk
  | .mk k t ns ks, lo, hi, vn, vk, hf, h => by
    rw [JO] at h ⊢
    obtain ⟨h0, h1, h2, h3, cells, h4, h5⟩ := h
    exact ⟨h0, ownsRow_frame h1 (fun b hb hs => hf b (ownsRow_base h1 hb).1 (h2 b hb) hs), h2, h3, cells, ownsRow_frame h4 (fun b hb hs => hf b (ownsRow_base h4 hb).1 (h3 b hb) hs), JOK.frame _ ks lo hi cells hf h5⟩
theorem JOK.frame {w w' : World} (X : Nat → Prop) : ∀ (ks : List JsonD) (lo hi : Nat) (cells : List Value), (∀ b, lo ≤ b → b < hi → b < w.heap.size → w'.heap[b]? = w.heap[b]?) → JOK w X ks lo hi cells → JOK w' X ks lo hi cells
  | [], lo, hi, cells, _, h => by rw [JOK] at h ⊢; exact h
  | j :: r, lo, hi, cells, hf, h => by
    rw [JOK] at h ⊢
    obtain ⟨vn, vk, rest, l, h', e, a1, a2, a3, a4, a5, a6⟩ := h
    exact ⟨vn, vk, rest, l, h', e, a1, a2, a3, a4, JO.frame j l h' vn vk (fun b b1 b2 b3 => hf b (by omega) (by omega) b3) a5, JOK.frame X r h' hi rest (fun b b1 b2 b3 => hf b (by omega) b2 b3) a6⟩
end
theorem JOK.widen {w : World} {X X' : Nat → Prop} : ∀ {ks : List JsonD} {lo lo' hi hi' : Nat} {cells : List Value}, JOK w X ks lo hi cells → lo' ≤ lo → hi ≤ hi' → (∀ b, X' b → X b ∨ b < lo ∨ hi ≤ b) → JOK w X' ks lo' hi' cells
  | [], lo, lo', hi, hi', cells, h, _, _, _ => by rw [JOK] at h ⊢; exact h
  | j :: r, lo, lo', hi, hi', cells, h, h1, h2, h3 => by
    rw [JOK] at h ⊢
    obtain ⟨vn, vk, rest, l, h', e, a1, a2, a3, a4, a5, a6⟩ := h
    refine ⟨vn, vk, rest, l, h', e, by omega, a2, by omega, fun b hb => ?_, a5, JOK.widen a6 (Nat.le_refl _) h2 (fun b hb => ?_)⟩
    · rcases h3 b hb with h | h | h
      · exact a4 b h
      · left; omega
      · right; omega
    · rcases h3 b hb with h | h | h
      · exact .inl h
      · right; left; omega
      · right; right; exact h
theorem JO.widen {w : World} {j : JsonD} {lo lo' hi hi' : Nat} {vn vk : Value} (h : JO w j lo hi vn vk) (h1 : lo' ≤ lo) (h2 : hi ≤ hi') : JO w j lo' hi' vn vk := by
  obtain ⟨k, t, ns, ks⟩ := j
  rw [JO] at h ⊢
  obtain ⟨g0, g1, g2, g3, cells, g4, g5⟩ := h
  exact ⟨by omega, ownsRow_low g1 h1, fun b hb => by have := g2 b hb; omega, fun b hb => by have := g3 b hb; omega, cells, ownsRow_low g4 h1, g5.widen h1 h2 (fun b hb => .inl hb)⟩
theorem JO.le {w : World} {j : JsonD} {lo hi : Nat} {vn vk : Value} (h : JO w j lo hi vn vk) : lo ≤ hi := by
  obtain ⟨k, t, ns, ks⟩ := j
  rw [JO] at h; exact h.1
theorem JOK.snoc {w : World} {X : Nat → Prop} {j : JsonD} {vn vk : Value} {l h hi : Nat} (hj : JO w j l h vn vk) (hh : h ≤ hi) (hx : ∀ b, X b → b < l ∨ h ≤ b) : ∀ {ks : List JsonD} {lo : Nat} {cells : List Value}, JOK w X ks lo l cells → lo ≤ l → JOK w X (ks ++ [j]) lo hi (cells ++ cellJ j vn vk)
  | [], lo, cells, hk, hl => by
    rw [JOK] at hk
    subst hk
    rw [List.nil_append, List.nil_append, JOK]
    exact ⟨vn, vk, [], l, h, by rw [List.append_nil], hl, hj.le, hh, hx, hj, by rw [JOK]⟩
  | k :: r, lo, cells, hk, hl => by
    rw [JOK] at hk
    obtain ⟨vn', vk', rest, l', h', e, a1, a2, a3, a4, a5, a6⟩ := hk
    have := hj.le
    rw [List.cons_append, JOK]
    exact ⟨vn', vk', rest ++ cellJ j vn vk, l', h', by rw [e, List.append_assoc], a1, a2, by omega, a4, a5, JOK.snoc hj hh hx a6 a3⟩
theorem row_cells {w : World} {base : Nat} {e : TypeId} {size : Nat} {v : Value} {n : Nat} {xs : List Value} (h : w.ownsRow base e size v n xs) (hlen : xs.length = n * size) : ∃ A c, v = .slice A n c ∧ n ≤ c ∧ c ≤ maxLen ∧ (0 < n → ∃ g, A = some ⟨g, 0, none⟩ ∧ ∀ i u, xs[i]? = some u → w.cell? ⟨g, 0 + i, none⟩ = some u) := by
  rcases h.2 with ⟨hv, h0⟩ | ⟨g, cap, cur, hv, hb, hh, hn, hm, hcs, ht⟩
  · exact ⟨none, 0, by rw [hv, h0], by omega, Nat.zero_le _, fun h => by omega⟩
  · refine ⟨some ⟨g, 0, none⟩, cap, hv, hn, hm, fun h0 => ⟨g, rfl, fun i u hu => ?_⟩⟩
    have hi := (List.getElem?_eq_some_iff.1 hu).1
    rw [cell_of_row _ _ _ _ _ _ hh, Nat.zero_add, ← Array.getElem?_toList]
    rw [← ht, List.getElem?_take, if_pos (by omega)] at hu
    exact hu
mutual
theorem JO.read {w : World} : ∀ (j : JsonD) (lo hi : Nat) (vn vk : Value), JO w j lo hi vn vk → JV w j vn vk
  | .mk k t ns ks, lo, hi, vn, vk, h => by
    rw [JO] at h
    obtain ⟨h0, h1, h2, h3, cells, h4, h5⟩ := h
    rw [JV]
    obtain ⟨A, c, e1, e2, e3, e4⟩ := row_cells h1 (by simp)
    obtain ⟨B, c', f1, f2, f3, f4⟩ := row_cells h4 h4.1
    refine ⟨⟨A, c, e1, e2, Nat.le_trans e3 (by decide), fun h0 => ?_⟩, B, c', f1, f2, Nat.le_trans f3 (by decide), fun h0 => ?_⟩
    · obtain ⟨g, rfl, hc⟩ := e4 h0
      refine ⟨g, 0, rfl, fun i hi => hc i _ ?_⟩
      simp [strV, gL, List.getD, hi]
    · obtain ⟨g, rfl, hc⟩ := f4 h0
      exact ⟨g, 0, cells, rfl, hc, JOK.read _ ks lo hi cells h5⟩
theorem JOK.read {w : World} (X : Nat → Prop) : ∀ (ks : List JsonD) (lo hi : Nat) (cells : List Value), JOK w X ks lo hi cells → JK w ks cells
  | [], lo, hi, cells, h => by rw [JOK] at h; rw [JK]; exact h
  | j :: r, lo, hi, cells, h => by
    rw [JOK] at h
    rw [JK]
    obtain ⟨vn, vk, rest, l, h', e, a1, a2, a3, a4, a5, a6⟩ := h
    exact ⟨vn, vk, rest, e, JO.read j l h' vn vk a5, JOK.read X r h' hi rest a6⟩
end
end Go.Proofs.YtlhhiiemojhjdaaGreatDoor
