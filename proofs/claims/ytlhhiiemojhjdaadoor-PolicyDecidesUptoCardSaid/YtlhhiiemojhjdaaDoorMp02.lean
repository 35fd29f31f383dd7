/- Texts of this proof, laid into one: KaC, KaD. -/
import Derived.Test.YtlhhiiemojhjdaaDoorMp01
import Derived.Lib.DecodeN
/- JSON, plain: a text with more behind it. -/
set_option linter.unusedVariables false
set_option linter.unusedSimpArgs false
namespace Go.Proofs.YtlhhiiemojhjdaaDoor
open Go Go.RowKit
def stopB (b : UInt8) : Bool := !(tenJ b) && b != 46 && b != 101 && b != 69
/-- What stands behind does not go on with a number. -/
def stopX (x : List UInt8) : Prop := stopB (hdB x) = true
def wsAll (x : List UInt8) : Prop := ∀ b ∈ x, wsB b = true
theorem ws_cases {b : UInt8} (h : wsB b = true) : b = 32 ∨ b = 9 ∨ b = 10 ∨ b = 13 := by
  unfold wsB at h
  simp only [Bool.or_eq_true, beq_iff_eq] at h
  rcases h with ((h | h) | h) | h <;> simp [h]
theorem ws_stop {x : List UInt8} (h : wsAll x) : stopX x := by
  cases x with
  | nil => rfl
  | cons b t => rcases ws_cases (h b (by simp)) with e | e | e | e <;> (unfold stopX; show stopB b = true; rw [e]; rfl)
theorem hd_app {l : List UInt8} (h : l ≠ []) (x : List UInt8) : hdB (l ++ x) = hdB l := by
  cases l with
  | nil => exact absurd rfl h
  | cons b t => rfl
theorem tail_app {l : List UInt8} (h : l ≠ []) (x : List UInt8) : (l ++ x).tail = l.tail ++ x := by
  cases l with
  | nil => exact absurd rfl h
  | cons b t => rfl
theorem drop_while_app (p : UInt8 → Bool) : ∀ (l x : List UInt8), (l ++ x).dropWhile p = if l.dropWhile p = [] then x.dropWhile p else l.dropWhile p ++ x
  | [], x => rfl
  | b :: t, x => by
    by_cases h : p b = true
    · rw [List.cons_append, List.dropWhile_cons_of_pos h, List.dropWhile_cons_of_pos h, drop_while_app p t x]
    · rw [List.cons_append, List.dropWhile_cons_of_neg h, List.dropWhile_cons_of_neg h, if_neg (by simp)]; rfl
theorem ws_skip {x : List UInt8} (h : wsAll x) : skipJ x = [] := by
  unfold skipJ
  induction x with
  | nil => rfl
  | cons b t ih => rw [List.dropWhile_cons_of_pos (h b (by simp))]; exact ih (fun c hc => h c (by simp [hc]))
theorem skip_app (l x : List UInt8) : skipJ (l ++ x) = if skipJ l = [] then skipJ x else skipJ l ++ x := drop_while_app _ l x
def PR.no57 {α : Type} (a : PR α) : Prop := ∀ n, a ≠ .bad 57 n
/-- Where it is too deep something stands. -/
def PR.dp {α : Type} (a : PR α) : Prop := ∀ n, a = .bad 57 n → n ≠ 0
theorem dp_of {α : Type} {a : PR α} (h : a.no57) : a.dp := fun n e => absurd e (h n)
theorem dp_bind {α β : Type} {a : PR α} {k : α → List UInt8 → PR β} (h : a.dp) (hk : ∀ v r, (k v r).dp) : (a.bind k).dp := by
  cases a with
  | bad e n => intro m em; exact h m (by cases em; rfl)
  | ok v r => exact hk v r
theorem no57_bind {α β : Type} {a : PR α} {k : α → List UInt8 → PR β} (h : a.no57) (hk : ∀ v r, (k v r).no57) : (a.bind k).no57 := by
  cases a with
  | bad e n => intro m em; exact h m (by cases em; rfl)
  | ok v r => exact hk v r
theorem no57_ok {α : Type} (v : α) (r : List UInt8) : (PR.ok v r).no57 := fun n e => by cases e
theorem no57_54 {α : Type} (n : Nat) : (PR.bad 54 n : PR α).no57 := fun m e => by cases e
theorem takeR_no (b : UInt8) (l : List UInt8) : (takeR b l).no57 := by
  cases l with
  | nil => exact no57_54 _
  | cons c t => rw [takeR]; split; exact no57_ok _ _; exact no57_54 _
theorem wordR_no : ∀ (w l : List UInt8), (wordR w l).no57
  | [], l => no57_ok _ _
  | b :: w, l => no57_bind (takeR_no b l) fun _ t => wordR_no w t
theorem digR_no (l : List UInt8) : (digR l).no57 := by unfold digR; split; exact no57_ok _ _; exact no57_54 _
theorem intR_no (l : List UInt8) : (intR l).no57 := by unfold intR; split; exact no57_ok _ _; exact digR_no _
theorem fracR_no (l : List UInt8) : (fracR l).no57 := by unfold fracR; split; exact digR_no _; exact no57_ok _ _
theorem expR_no (l : List UInt8) : (expR l).no57 := by unfold expR; split; exact digR_no _; exact no57_ok _ _
theorem numR_no (l : List UInt8) : (numR l).no57 := no57_bind (intR_no _) fun _ _ => no57_bind (fracR_no _) fun _ _ => expR_no _
theorem fourR_no (f : Nat) : ∀ (k n : Nat) (l : List UInt8), (fourR f k n l).no57
  | 0, n, l => no57_ok _ _
  | k + 1, n, [] => no57_54 _
  | k + 1, n, b :: t => by unfold fourR; split; exact no57_54 _; exact fourR_no f k _ t
theorem mustR_no (f : Nat) (b : UInt8) (l : List UInt8) : (mustR f b l).no57 := by
  cases l with
  | nil => exact no57_54 _
  | cons c t => rw [mustR]; split; exact no57_ok _ _; exact no57_54 _
theorem unitR_no (f : Nat) (l : List UInt8) : (unitR f l).no57 := no57_bind (mustR_no _ _ _) fun _ _ => no57_bind (mustR_no _ _ _) fun _ _ => fourR_no _ _ _ _
theorem codeR_no (f c : Nat) (l : List UInt8) : (codeR f c l).no57 := by
  unfold codeR; split; exact no57_54 _; split
  · refine no57_bind (unitR_no _ _) fun d t => ?_
    split; exact no57_ok _ _; exact no57_54 _
  · exact no57_ok _ _
theorem escR_no (l : List UInt8) : (escR l).no57 := by
  match l with
  | [] => exact no57_54 _
  | [a] => exact no57_54 _
  | a :: b :: t =>
    rw [escR]
    split
    · exact no57_bind (fourR_no _ _ _ _) fun _ _ => codeR_no _ _ _
    · split; exact no57_54 _; exact no57_ok _ _
theorem txtR_no : ∀ (n : Nat) (l acc : List UInt8), (txtR n l acc).no57
  | 0, l, acc => no57_54 _
  | n + 1, [], acc => no57_54 _
  | n + 1, b :: t, acc => by
    unfold txtR; split
    · exact no57_ok _ _
    · split
      · exact no57_bind (escR_no _) fun _ _ => txtR_no n _ _
      · split; exact no57_54 _; exact txtR_no n _ _
theorem textR_no (l : List UInt8) : (textR l).no57 := no57_bind (takeR_no _ _) fun _ _ => txtR_no _ _ _
theorem constR_no (w : List UInt8) (k : Int) (l : List UInt8) : (constR w k l).no57 := no57_bind (wordR_no _ _) fun _ _ => no57_ok _ _
theorem atomR_no (l : List UInt8) : (atomR l).no57 := by
  unfold atomR
  split
  · exact no57_bind (textR_no _) fun _ _ => no57_ok _ _
  · split
    · exact constR_no _ _ _
    · split
      · exact constR_no _ _ _
      · split
        · exact constR_no _ _ _
        · split
          · exact no57_bind (numR_no _) fun _ _ => no57_ok _ _
          · exact no57_54 _
theorem itemsR_dp {α : Type} {one : List UInt8 → PR α} (h : ∀ l, (one l).dp) (c : UInt8) : ∀ (n : Nat) (l : List UInt8) (acc : List α), (itemsR one c n l acc).dp
  | 0, l, acc => dp_of (no57_54 _)
  | n + 1, l, acc => by
    unfold itemsR
    refine dp_bind (h l) fun v r => ?_
    split
    · exact dp_of (no57_ok _ _)
    · exact dp_bind (dp_of (takeR_no _ _)) fun _ _ => itemsR_dp h c n _ _
theorem rowR_dp {α : Type} {one : List UInt8 → PR α} (h : ∀ l, (one l).dp) (c : UInt8) (l : List UInt8) : (rowR one c l).dp := by
  unfold rowR; split; exact dp_of (no57_ok _ _); exact itemsR_dp h c _ _ _
theorem pairR_dp {one : List UInt8 → PR JsonD} (h : ∀ l, (one l).dp) (l : List UInt8) : (pairR one l).dp :=
  dp_bind (dp_of (textR_no _)) fun _ _ => dp_bind (dp_of (takeR_no _ _)) fun _ _ => dp_bind (h _) fun _ _ => dp_of (no57_ok _ _)
theorem valR_dp : ∀ (d : Nat) (l : List UInt8), (valR d l).dp
  | 0, l => by
    unfold valR; split
    · next h =>
      intro n e
      injection e with _ e
      subst e
      cases l with
      | nil => rcases h with h | h <;> exact absurd h (by decide)
      | cons b t => simp
    · exact dp_of (atomR_no _)
  | d + 1, l => by
    unfold valR; split
    · exact dp_bind (rowR_dp (valR_dp d) _ _) fun _ _ => dp_of (no57_ok _ _)
    · split
      · exact dp_bind (rowR_dp (pairR_dp (valR_dp d)) _ _) fun _ _ => dp_of (no57_ok _ _)
      · exact dp_of (atomR_no _)
/-- b: what is read with x behind; a: without. -/
def PR.ext {α : Type} (x : List UInt8) (a b : PR α) : Prop := match a with
  | .ok v r => (r ≠ [] ∨ stopX x) → b = .ok v (r ++ x)
  | .bad e n => (e = 57 → b = .bad 57 (n + x.length)) ∧ (wsAll x → ∃ m, b = .bad e m ∧ (n ≠ 0 → m = n + x.length))
/-- At the text's end nothing is left, and it is not too deep. -/
def PR.fin {α : Type} (a : PR α) : Prop := match a with
  | .ok _ r => r = []
  | .bad e _ => e ≠ 57
theorem fin_of {α : Type} {a : PR α} (hg : a.good []) (hd : a.dp) : a.fin := by
  cases a with
  | ok v r => exact List.eq_nil_of_length_eq_zero (by have := List.IsSuffix.length_le hg; simpa using this)
  | bad e n =>
    have hn : n = 0 := by have : n ≤ ([] : List UInt8).length := hg; simpa using this
    exact fun e57 => absurd hn (hd n (by rw [e57]))
theorem ext_bind0 {α β : Type} {x : List UInt8} {a b : PR α} {k : α → List UInt8 → PR β} {k' : α → List UInt8 → PR β} (h : a.ext x b) (hk : ∀ v r, a = .ok v r → (r ≠ [] ∨ stopX x) → (k v r).ext x (k' v (r ++ x)))
    (hf : ∀ v, (k v []).fin) : (a.bind k).ext x (b.bind k') := by
  cases a with
  | bad e n =>
    refine ⟨fun e57 => ?_, fun hw => ?_⟩
    · rw [h.1 e57]; rfl
    · obtain ⟨m, h1, h2⟩ := h.2 hw
      exact ⟨m, by rw [h1]; rfl, h2⟩
  | ok v r =>
    by_cases hr : r ≠ [] ∨ stopX x
    · have e : b = .ok v (r ++ x) := h hr
      rw [e]
      exact hk v r rfl hr
    · have h0 : r = [] := Classical.byContradiction fun h => hr (.inl h)
      have hs : ¬ stopX x := fun h => hr (.inr h)
      subst h0
      have g := hf v
      show (k v []).ext x _
      cases hkv : k v [] with
      | ok v' r' =>
        rw [hkv] at g
        have : r' = [] := g
        subst this
        exact fun h => (h.elim (fun h => absurd rfl h) (fun h => absurd h hs))
      | bad e n =>
        rw [hkv] at g
        exact ⟨fun e57 => absurd e57 g, fun hw => absurd (ws_stop hw) hs⟩
theorem ext_bind {α β : Type} {x : List UInt8} {a b : PR α} {k : α → List UInt8 → PR β} {k' : α → List UInt8 → PR β} (h : a.ext x b) (hk : ∀ v r, a = .ok v r → (r ≠ [] ∨ stopX x) → (k v r).ext x (k' v (r ++ x)))
    (hg : ∀ v r, (k v r).good r) (hd : ∀ v r, (k v r).dp) : (a.bind k).ext x (b.bind k') := ext_bind0 h hk fun v => fin_of (hg v []) (hd v [])
theorem ext_ok {α : Type} (x : List UInt8) (v : α) (r : List UInt8) : (PR.ok v r).ext x (.ok v (r ++ x)) := fun _ => rfl
theorem ext_bad {α : Type} (x : List UInt8) (e n m : Nat) (h : m = n + x.length) : (PR.bad e n : PR α).ext x (.bad e m) := ⟨(fun e57 => by rw [e57, h]), fun _ => ⟨m, rfl, fun _ => h⟩⟩
theorem ext_end {α : Type} {x : List UInt8} {b : PR α} (h : wsAll x → ∃ m, b = .bad 54 m) : (PR.bad 54 0 : PR α).ext x b := ⟨(fun e => by cases e), fun hw => (h hw).imp fun m hm => ⟨hm, fun h0 => absurd rfl h0⟩⟩
theorem ws_ne {b c : UInt8} (h : wsB c = true) (hb : wsB b = false) : c ≠ b := fun e => by rw [e, hb] at h; cases h
theorem takeR_ext (x : List UInt8) {b : UInt8} (hb : wsB b = false) (l : List UInt8) : (takeR b l).ext x (takeR b (l ++ x)) := by
  cases l with
  | nil =>
    refine ext_end fun hw => ?_
    cases x with
    | nil => exact ⟨0, rfl⟩
    | cons c t => exact ⟨t.length + 1, by show takeR b (c :: t) = _; rw [takeR, if_neg (ws_ne (hw c (by simp)) hb)]⟩
  | cons c t =>
    rw [List.cons_append, takeR, takeR]
    split
    · exact ext_ok x _ t
    · exact ext_bad x _ _ _ (by simp; omega)
theorem wordR_ext (x : List UInt8) : ∀ (w l : List UInt8), (∀ b ∈ w, wsB b = false) → (wordR w l).ext x (wordR w (l ++ x))
  | [], l, _ => ext_ok x _ l
  | b :: w, l, h => ext_bind (takeR_ext x (h b (by simp)) l) (fun _ t _ _ => wordR_ext x w t fun c hc => h c (by simp [hc])) (fun _ t => wordR_good w t) (fun _ t => dp_of (wordR_no w t))
theorem stop_ten {x : List UInt8} (h : stopX x) : tenJ (hdB x) = false ∧ hdB x ≠ 46 ∧ hdB x ≠ 101 ∧ hdB x ≠ 69 := by
  unfold stopX stopB at h
  simp only [Bool.and_eq_true, Bool.not_eq_true', bne_iff_ne, ne_eq] at h
  exact ⟨h.1.1.1, h.1.1.2, h.1.2, h.2⟩
theorem drop_ten {x : List UInt8} (h : tenJ (hdB x) = false) : x.dropWhile tenJ = x := by
  cases x with
  | nil => rfl
  | cons b t => exact List.dropWhile_cons_of_neg (by rw [show hdB (b :: t) = b from rfl] at h; rw [h]; decide)
theorem digR_end {x : List UInt8} (h : tenJ (hdB x) = false) : digR x = .bad 54 x.length := by unfold digR; rw [h]; rfl
theorem digR_ext (x l : List UInt8) : (digR l).ext x (digR (l ++ x)) := by
  by_cases hl : l = []
  · subst hl
    exact ext_end fun hw => ⟨_, digR_end (stop_ten (ws_stop hw)).1⟩
  · unfold digR
    rw [hd_app hl]
    split
    · intro hr
      rw [drop_while_app]
      by_cases h0 : l.dropWhile tenJ = []
      · rw [if_pos h0, h0]
        rw [drop_ten (stop_ten (hr.resolve_left (fun h => h h0))).1]; rfl
      · rw [if_neg h0]
    · exact ext_bad x _ _ _ (by simp)
theorem intR_ext (x l : List UInt8) : (intR l).ext x (intR (l ++ x)) := by
  by_cases hl : l = []
  · subst hl
    refine ext_end fun hw => ⟨x.length, ?_⟩
    show intR x = _
    unfold intR
    rw [if_neg (fun e => by have := (stop_ten (ws_stop hw)).1; rw [e] at this; cases this), digR_end (stop_ten (ws_stop hw)).1]
  · unfold intR
    rw [hd_app hl, tail_app hl]
    split
    · exact ext_ok x _ _
    · exact digR_ext x l
theorem fracR_ext (x l : List UInt8) : (fracR l).ext x (fracR (l ++ x)) := by
  by_cases hl : l = []
  · subst hl
    intro hr
    have hs := hr.resolve_left (fun h => h rfl)
    show fracR x = _
    unfold fracR
    rw [if_neg (stop_ten hs).2.1]; rfl
  · unfold fracR
    rw [hd_app hl, tail_app hl]
    split
    · exact digR_ext x _
    · exact ext_ok x _ _
theorem sign_app {l : List UInt8} (hl : l ≠ []) (x : List UInt8) : signR (l ++ x) = signR l ++ x := by
  unfold signR
  rw [hd_app hl, tail_app hl]
  split <;> rfl
theorem ws_hd {x : List UInt8} (h : wsAll x) {b : UInt8} (hb : wsB b = false) (h0 : b ≠ 0) : hdB x ≠ b := by
  cases x with
  | nil => exact fun e => h0 e.symm
  | cons c t => exact ws_ne (h c (by simp)) hb
theorem expR_ext (x l : List UInt8) : (expR l).ext x (expR (l ++ x)) := by
  by_cases hl : l = []
  · subst hl
    intro hr
    have hs := hr.resolve_left (fun h => h rfl)
    show expR x = _
    unfold expR
    rw [if_neg (fun h => h.elim (stop_ten hs).2.2.1 (stop_ten hs).2.2.2)]; rfl
  · unfold expR
    rw [hd_app hl, tail_app hl]
    split
    · by_cases ht : l.tail = []
      · rw [ht]
        refine ext_end fun hw => ⟨x.length, ?_⟩
        have e : signR ([] ++ x) = x := by
          show signR x = x
          unfold signR
          rw [if_neg (fun h => h.elim (ws_hd hw (by decide) (by decide)) (ws_hd hw (by decide) (by decide)))]
        rw [e, digR_end (stop_ten (ws_stop hw)).1]
      · rw [sign_app ht]; exact digR_ext x _
    · exact ext_ok x _ _
theorem minus_app {l : List UInt8} (hl : l ≠ []) (x : List UInt8) : minusR (l ++ x) = minusR l ++ x := by
  unfold minusR
  rw [hd_app hl, tail_app hl]
  split <;> rfl
theorem numR_ext (x l : List UInt8) : (numR l).ext x (numR (l ++ x)) := by
  by_cases hl : l = []
  · subst hl
    refine ext_end fun hw => ⟨x.length, ?_⟩
    have e : minusR x = x := by unfold minusR; rw [if_neg (ws_hd hw (by decide) (by decide))]
    have e2 : intR x = .bad 54 x.length := by
      unfold intR
      rw [if_neg (ws_hd hw (by decide) (by decide)), digR_end (stop_ten (ws_stop hw)).1]
    show numR x = _
    unfold numR
    rw [e, e2]; rfl
  · unfold numR
    rw [minus_app hl]
    exact ext_bind (intR_ext x _) (fun _ r _ _ => ext_bind (fracR_ext x r) (fun _ r' _ _ => expR_ext x r') (fun _ r' => expR_good r') (fun _ r' => dp_of (expR_no r')))
      (fun _ r => good_bind (fracR_good r) fun _ r' _ => expR_good r') (fun _ r => dp_bind (dp_of (fracR_no r)) fun _ r' => dp_of (expR_no r'))
theorem hex_ws {b : UInt8} (h : wsB b = true) : hexJ b = none := by rcases ws_cases h with e | e | e | e <;> (rw [e]; rfl)
theorem fourR_ext (x : List UInt8) (f : Nat) : ∀ (k n : Nat) (l : List UInt8), (fourR f k n l).ext x (fourR (f + x.length) k n (l ++ x))
  | 0, n, l => ext_ok x _ l
  | k + 1, n, [] => ext_end fun hw => by
    cases x with
    | nil => exact ⟨0, rfl⟩
    | cons c t => exact ⟨f + (c :: t).length, by show fourR _ (k + 1) n (c :: t) = _; rw [fourR, hex_ws (hw c (by simp))]⟩
  | k + 1, n, b :: t => by
    rw [List.cons_append, fourR, fourR]
    split
    · exact ext_bad x _ _ _ rfl
    · exact fourR_ext x f k _ t
theorem mustR_ext (x : List UInt8) (f : Nat) {b : UInt8} (hb : wsB b = false) (l : List UInt8) : (mustR f b l).ext x (mustR (f + x.length) b (l ++ x)) := by
  cases l with
  | nil =>
    refine ext_end fun hw => ?_
    cases x with
    | nil => exact ⟨0, rfl⟩
    | cons c t => exact ⟨f + (c :: t).length, by show mustR _ b (c :: t) = _; rw [mustR, if_neg (ws_ne (hw c (by simp)) hb)]⟩
  | cons c t =>
    rw [List.cons_append, mustR, mustR]
    split
    · exact ext_ok x _ t
    · exact ext_bad x _ _ _ rfl
theorem unitR_ext (x : List UInt8) (f : Nat) (l : List UInt8) : (unitR f l).ext x (unitR (f + x.length) (l ++ x)) :=
  ext_bind0 (mustR_ext x f (by decide) l) (fun _ t _ _ => ext_bind0 (mustR_ext x f (by decide) t) (fun _ u _ _ => fourR_ext x f 4 0 u) (fun _ => by show (54 : Nat) ≠ 57; decide)) (fun _ => by show (54 : Nat) ≠ 57; decide)
theorem codeR_ext (x : List UInt8) (f c : Nat) (l : List UInt8) : (codeR f c l).ext x (codeR (f + x.length) c (l ++ x)) := by
  unfold codeR
  split
  · exact ext_bad x _ _ _ rfl
  · split
    · refine ext_bind0 (unitR_ext x f l) (fun d t _ _ => ?_) (fun d => ?_)
      · split
        · exact ext_ok x _ t
        · exact ext_bad x _ _ _ rfl
      · split
        · exact rfl
        · show (54 : Nat) ≠ 57; decide
    · exact ext_ok x _ l
theorem simple_ws {b : UInt8} (h : wsB b = true) : simpleE b = none := by rcases ws_cases h with e | e | e | e <;> (rw [e]; rfl)
theorem escR_ws (a c : UInt8) (t : List UInt8) (h : wsB c = true) : escR (a :: c :: t) = .bad 54 (a :: c :: t).length := by
  rw [escR, if_neg (ws_ne h (by decide)), simple_ws h]
theorem escR_ext (x l : List UInt8) : (escR l).ext x (escR (l ++ x)) := by
  match l with
  | [] =>
    refine ext_end fun hw => ?_
    match x with
    | [] => exact ⟨0, rfl⟩
    | [a] => exact ⟨0, rfl⟩
    | a :: c :: t => exact ⟨_, escR_ws a c t (hw c (by simp))⟩
  | [a] =>
    refine ext_end fun hw => ?_
    match x with
    | [] => exact ⟨0, rfl⟩
    | c :: t => exact ⟨_, escR_ws a c t (hw c (by simp))⟩
  | a :: b :: t =>
    have e : (a :: b :: t) ++ x = a :: b :: (t ++ x) := rfl
    rw [e, escR, escR]
    have hl : (a :: b :: (t ++ x)).length = (a :: b :: t).length + x.length := by simp; omega
    rw [hl]
    split
    · refine ext_bind0 (fourR_ext x _ 4 0 t) (fun c u _ _ => codeR_ext x _ c u) (fun c => ?_)
      unfold codeR
      split
      · show (54 : Nat) ≠ 57; decide
      · split
        · show (54 : Nat) ≠ 57; decide
        · exact rfl
    · split
      · exact ext_bad x _ _ _ rfl
      · exact ext_ok x _ t
/-! Characters. -/
def uN (n b0 b1 b2 b3 : Nat) : Nat := if n = 0 then 0 else if (Lib.decodeN n b0 b1 b2 b3).1 = 65533 ∧ (Lib.decodeN n b0 b1 b2 b3).2 = 1 then 0 else (Lib.decodeN n b0 b1 b2 b3).2
theorem get_list (l : List UInt8) (i : Nat) : (ByteArray.mk l.toArray).get! i = gB l i := by
  unfold gB
  show l.toArray[i]! = _
  simp [List.getD, Array.getElem!_eq_getD]
  rfl
theorem utf_uN (l : List UInt8) : utfN l = uN l.length (gB l 0).toNat (gB l 1).toNat (gB l 2).toNat (gB l 3).toNat := by
  unfold utfN uN Lib.decodeL
  rw [Lib.decode_at, get_list, get_list, get_list, get_list]
  have hs : (ByteArray.mk l.toArray).size - 0 = l.length := rfl
  rw [hs]
  cases l with
  | nil => rfl
  | cons b t => simp
/-- What decides a lead byte's case. -/
theorem dec_same {n n' b0 b1 b2 b3 c1 c2 c3 : Nat} (h1 : (1 < n ∧ b1 / 64 = 2) ↔ (1 < n' ∧ c1 / 64 = 2)) (h2 : (2 < n ∧ b2 / 64 = 2) ↔ (2 < n' ∧ c2 / 64 = 2)) (h3 : (3 < n ∧ b3 / 64 = 2) ↔ (3 < n' ∧ c3 / 64 = 2))
    (e1 : 1 < n ∧ b1 / 64 = 2 → c1 = b1) (e2 : 2 < n ∧ b2 / 64 = 2 → c2 = b2) (e3 : 3 < n ∧ b3 / 64 = 2 → c3 = b3) : Lib.decodeN n' b0 c1 c2 c3 = Lib.decodeN n b0 b1 b2 b3 := by
  unfold Lib.decodeN
  simp only [← h1, ← h2, ← h3]
  by_cases g1 : 1 < n ∧ b1 / 64 = 2
  · rw [e1 g1]
    by_cases g2 : 2 < n ∧ b2 / 64 = 2
    · rw [e2 g2]
      by_cases g3 : 3 < n ∧ b3 / 64 = 2
      · rw [e3 g3]
      · simp only [g3, and_false, if_false]
    · simp only [g2, and_false, false_and, if_false]
  · simp only [g1, and_false, false_and, if_false]
theorem dec_pre {n b0 b1 b2 b3 n' c1 c2 c3 k : Nat} (h : uN n b0 b1 b2 b3 = k) (hk : k ≠ 0) (hn : ∀ i, i < n → i < n') (e1 : 1 < n → c1 = b1) (e2 : 2 < n → c2 = b2) (e3 : 3 < n → c3 = b3) : uN n' b0 c1 c2 c3 = k ∧ k ≤ n ∧ k ≤ 4 := by
  unfold uN at h ⊢
  have h0 : n ≠ 0 := by intro e; rw [if_pos e] at h; exact hk h.symm
  have h0' : n' ≠ 0 := by have := hn 0 (by omega); omega
  rw [if_neg h0] at h
  rw [if_neg h0']
  unfold Lib.decodeN at h ⊢
  by_cases a : b0 < 128
  · simp only [a, if_true] at h ⊢
    have : ¬ (b0 = 65533 ∧ True) := by omega
    rw [if_neg (by simpa using this)] at h ⊢
    omega
  · simp only [a, if_false] at h ⊢
    by_cases g1 : 1 < n ∧ b1 / 64 = 2
    · have g1' : 1 < n' ∧ c1 / 64 = 2 := ⟨hn 1 g1.1, by rw [e1 g1.1]; exact g1.2⟩
      rw [e1 g1.1] at g1' ⊢
      by_cases a2 : b0 / 32 = 6
      · simp only [a2, g1, g1', and_self, if_true] at h ⊢
        refine ⟨h, ?_⟩
        have hg := g1.1
        revert h
        (repeat' split) <;> intro h <;> first | omega | (simp only at h; omega) | (simp_all; done)
      · simp only [a2, false_and, if_false] at h ⊢
        by_cases g2 : 2 < n ∧ b2 / 64 = 2
        · have g2' : 2 < n' ∧ c2 / 64 = 2 := ⟨hn 2 g2.1, by rw [e2 g2.1]; exact g2.2⟩
          rw [e2 g2.1] at g2' ⊢
          by_cases a3 : b0 / 16 = 14
          · simp only [a3, g1, g1', g2, g2', and_self, if_true] at h ⊢
            refine ⟨h, ?_⟩
            have hg := g2.1
            revert h
            (repeat' split) <;> intro h <;> first | omega | (simp only at h; omega) | (simp_all; done)
          · simp only [a3, false_and, if_false] at h ⊢
            by_cases g3 : 3 < n ∧ b3 / 64 = 2
            · have g3' : 3 < n' ∧ c3 / 64 = 2 := ⟨hn 3 g3.1, by rw [e3 g3.1]; exact g3.2⟩
              rw [e3 g3.1] at g3' ⊢
              by_cases a4 : b0 / 8 = 30
              · simp only [a4, g1, g1', g2, g2', g3, g3', and_self, if_true] at h ⊢
                refine ⟨h, ?_⟩
                have hg := g3.1
                revert h
                (repeat' split) <;> intro h <;> first | omega | (simp only at h; omega) | (simp_all; done)
              · simp [a4] at h; exact absurd h.symm hk
            · simp [g3] at h; exact absurd h.symm hk
        · simp [g2] at h; exact absurd h.symm hk
    · simp [g1] at h; exact absurd h.symm hk
theorem gB_app_lt {l x : List UInt8} {i : Nat} (h : i < l.length) : gB (l ++ x) i = gB l i := by
  unfold gB; simp [List.getD, List.getElem?_append_left h]
theorem gB_app_ge {l x : List UInt8} {i : Nat} (h : l.length ≤ i) : gB (l ++ x) i = gB x (i - l.length) := by
  unfold gB; simp [List.getD, List.getElem?_append_right h]
theorem utf_ext {l x : List UInt8} (h : utfN l ≠ 0) : utfN (l ++ x) = utfN l ∧ utfN l ≤ l.length ∧ utfN l ≤ 4 := by
  have h0 : 0 < l.length := by
    cases l with
    | nil => exact absurd rfl h
    | cons b t => simp
  have e := utf_uN l
  rw [utf_uN (l ++ x), gB_app_lt h0]
  exact dec_pre e.symm h (fun i hi => by rw [List.length_append]; omega) (fun h => by rw [gB_app_lt h]) (fun h => by rw [gB_app_lt h]) (fun h => by rw [gB_app_lt h])
theorem ws_lt {b : UInt8} (h : wsB b = true) : b.toNat < 128 := by rcases ws_cases h with e | e | e | e <;> (rw [e]; decide)
theorem gB_ws {x : List UInt8} (h : wsAll x) (i : Nat) : (gB x i).toNat / 64 ≠ 2 := by
  by_cases hi : i < x.length
  · have e : gB x i = x[i] := by unfold gB; simp [List.getD, hi]
    have := ws_lt (h _ (List.getElem_mem hi))
    rw [e]; omega
  · have e : gB x i = 0 := by unfold gB; simp [List.getD, hi]
    rw [e]; decide
theorem utf_ws {l x : List UInt8} (hl : l ≠ []) (h : utfN l = 0) (hw : wsAll x) : utfN (l ++ x) = 0 := by
  have h0 : 0 < l.length := List.length_pos_iff.2 hl
  rw [utf_uN] at h
  rw [utf_uN, gB_app_lt h0]
  unfold uN at h ⊢
  rw [if_neg (by omega)] at h
  rw [if_neg (by rw [List.length_append]; omega)]
  have key : ∀ i, 0 < i → ((i < l.length ∧ (gB l i).toNat / 64 = 2) ↔ (i < (l ++ x).length ∧ (gB (l ++ x) i).toNat / 64 = 2)) := by
    intro i _
    by_cases hi : i < l.length
    · rw [gB_app_lt hi]
      exact ⟨fun h => ⟨by rw [List.length_append]; omega, h.2⟩, fun h => ⟨hi, h.2⟩⟩
    · constructor
      · intro h; exact absurd h.1 hi
      · intro h; rw [gB_app_ge (by omega)] at h; exact absurd h.2 (gB_ws hw _)
  have eq : ∀ i, i < l.length ∧ (gB l i).toNat / 64 = 2 → (gB (l ++ x) i).toNat = (gB l i).toNat := fun i h => by rw [gB_app_lt h.1]
  rw [dec_same (key 1 (by omega)) (key 2 (by omega)) (key 3 (by omega)) (eq 1) (eq 2) (eq 3)]
  exact h
theorem utf_ascii (b : UInt8) (t : List UInt8) (h : b.toNat < 128) : utfN (b :: t) = 1 := by
  rw [utf_uN]
  have e : gB (b :: t) 0 = b := rfl
  rw [e]
  unfold uN Lib.decodeN
  simp only [h, if_true]
  rw [if_neg (by simp), if_neg (by omega)]
/-- Blanks alone within a text: it never ends. -/
theorem txtR_ws : ∀ (n : Nat) (x acc : List UInt8), wsAll x → ∃ m, txtR n x acc = .bad 54 m
  | 0, x, acc, _ => ⟨_, rfl⟩
  | n + 1, [], acc, _ => ⟨0, rfl⟩
  | n + 1, b :: t, acc, h => by
    have hb := h b (by simp)
    unfold txtR
    rw [if_neg (ws_ne hb (by decide)), if_neg (ws_ne hb (by decide)), utf_ascii b t (ws_lt hb)]
    by_cases c : b.toNat < 32
    · rw [if_pos (.inl c)]; exact ⟨_, rfl⟩
    · rw [if_neg (by omega)]
      exact txtR_ws n _ _ (fun c hc => h c (by simp at hc; simp [hc]))
theorem escR_eats (l : List UInt8) : (escR l).eats l := by
  intro v r e
  match l with
  | [] => cases e
  | [a] => cases e
  | a :: b :: t =>
    have ht : t.length < (a :: b :: t).length := by simp; omega
    have key : ∀ {p : PR (List UInt8)}, (∀ v r, p = .ok v r → r.length ≤ t.length) → p = .ok v r → r.length < (a :: b :: t).length := fun h he => Nat.lt_of_le_of_lt (h v r he) ht
    rw [escR] at e
    split at e
    · have hf : ∀ (k n : Nat) (l : List UInt8) v r, fourR (a :: b :: t).length k n l = .ok v r → r.length ≤ l.length := by
        intro k
        induction k with
        | zero => intro n l v r h; cases h; exact Nat.le_refl _
        | succ k ih =>
          intro n l v r h
          cases l with
          | nil => cases h
          | cons c u =>
            rw [fourR] at h
            split at h
            · cases h
            · have := ih _ _ _ _ h; simp; omega
      have hm : ∀ (b' : UInt8) (l : List UInt8) v r, mustR (a :: b :: t).length b' l = .ok v r → r.length ≤ l.length := by
        intro b' l v r h
        cases l with
        | nil => cases h
        | cons c u =>
          rw [mustR] at h
          split at h
          · cases h; simp
          · cases h
      have hb : ∀ {α β : Type} {p : PR α} {k : α → List UInt8 → PR β} {w : β} {s : List UInt8}, p.bind k = .ok w s → ∃ v r, p = .ok v r ∧ k v r = .ok w s := by
        intro α β p k w s h
        cases p with
        | bad e n => cases h
        | ok v r => exact ⟨v, r, rfl, h⟩
      refine key ?_ e
      intro v r h
      obtain ⟨c, u, h1, h2⟩ := hb h
      have h3 := hf _ _ _ _ _ h1
      unfold codeR at h2
      split at h2
      · cases h2
      · split at h2
        · obtain ⟨d, u2, h4, h5⟩ := hb h2
          unfold unitR at h4
          obtain ⟨_, u3, h6, h7⟩ := hb h4
          obtain ⟨_, u4, h8, h9⟩ := hb h7
          have l1 := hm _ _ _ _ h6
          have l2 := hm _ _ _ _ h8
          have l3 := hf _ _ _ _ _ h9
          split at h5
          · injection h5 with _ h5; subst h5; omega
          · cases h5
        · cases h2; exact h3
    · split at e
      · cases e
      · cases e; exact ht
theorem txtR_ext (x : List UInt8) : ∀ (n n' : Nat) (l acc : List UInt8), l.length < n → (l ++ x).length < n' → (txtR n l acc).ext x (txtR n' (l ++ x) acc)
  | 0, n', l, acc, h, _ => absurd h (by omega)
  | n + 1, n', [], acc, _, _ => ext_end fun hw => txtR_ws n' x acc hw
  | n + 1, 0, b :: t, acc, _, h => absurd h (by omega)
  | n + 1, n' + 1, b :: t, acc, h, h' => by
    rw [List.cons_append, txtR, txtR]
    simp only [List.length_cons, List.cons_append, List.length_append] at h h'
    split
    · exact ext_ok x _ t
    · split
      · refine ext_bind (escR_ext x (b :: t)) (fun c u hu _ => ?_) (fun c u => txtR_good n u _) (fun c u => dp_of (txtR_no n u _))
        have := escR_eats _ _ _ hu
        simp only [List.length_cons] at this
        exact txtR_ext x n n' u _ (by omega) (by rw [List.length_append]; omega)
      · by_cases hu : utfN (b :: t) = 0
        · rw [if_pos (.inr hu)]
          refine ⟨(fun e => by cases e), fun hw => ?_⟩
          have h2 := utf_ws (l := b :: t) (by simp) hu hw
          rw [if_pos (.inr h2)]
          exact ⟨_, rfl, fun _ => by rw [List.length_append]; omega⟩
        · obtain ⟨h2, h3, h4⟩ := utf_ext (x := x) hu
          have h2' : utfN (b :: (t ++ x)) = utfN (b :: t) := h2
          rw [h2']
          by_cases hc : b.toNat < 32
          · rw [if_pos (.inl hc), if_pos (.inl hc)]
            exact ext_bad x _ _ _ (by rw [List.length_append]; omega)
          · have hneg : ¬ (b.toNat < 32 ∨ utfN (b :: t) = 0) := fun h => h.elim hc hu
            rw [if_neg hneg, if_neg hneg]
            have e1 : (b :: (t ++ x)).drop (utfN (b :: t)) = (b :: t).drop (utfN (b :: t)) ++ x := by
              show ((b :: t) ++ x).drop _ = _
              rw [List.drop_append_of_le_length h3]
            have e2 : (b :: (t ++ x)).take (utfN (b :: t)) = (b :: t).take (utfN (b :: t)) := by
              show ((b :: t) ++ x).take _ = _
              rw [List.take_append_of_le_length h3]
            rw [e1, e2]
            have h5 : ((b :: t).drop (utfN (b :: t))).length ≤ t.length := by rw [List.length_drop, List.length_cons]; omega
            exact txtR_ext x n n' _ _ (by omega) (by rw [List.length_append]; omega)
theorem textR_ext (x l : List UInt8) : (textR l).ext x (textR (l ++ x)) :=
  ext_bind (takeR_ext x (by decide) l) (fun _ t _ _ => txtR_ext x _ _ t [] (by omega) (by omega)) (fun _ t => txtR_good _ t _) (fun _ t => dp_of (txtR_no _ t _))
theorem itemsR_ext {α : Type} (x : List UInt8) {one : List UInt8 → PR α} (h1 : ∀ l, (one l).ext x (one (l ++ x))) (hg : ∀ l, (one l).good l) (he : ∀ l, (one l).eats l) (hd : ∀ l, (one l).dp) {c : UInt8} (hc : wsB c = false) (hc0 : c ≠ 0) :
    ∀ (n n' : Nat) (l : List UInt8) (acc : List α), l.length < n → (l ++ x).length < n' → (itemsR one c n l acc).ext x (itemsR one c n' (l ++ x) acc)
  | 0, n', l, acc, h, _ => absurd h (by omega)
  | n + 1, 0, l, acc, _, h => absurd h (by omega)
  | n + 1, n' + 1, l, acc, h, h' => by
    unfold itemsR
    rw [List.length_append] at h'
    refine ext_bind (h1 l) (fun v r hr hrx => ?_) (fun v r => ?_) (fun v r => ?_)
    · have hlt := he l v r hr
      by_cases hs : skipJ r = []
      · have hd0 : hdB (skipJ r) ≠ c := by rw [hs]; exact fun e => hc0 e.symm
        rw [if_neg hd0, hs]
        have e0 : ((takeR 44 []).bind fun (_ : Unit) u => itemsR one c n (skipJ u) (acc ++ [v])) = .bad 54 0 := rfl
        rw [e0]
        refine ext_end fun hw => ?_
        have hs2 : skipJ (r ++ x) = [] := by rw [skip_app, if_pos hs]; exact ws_skip hw
        rw [hs2, if_neg (fun e => hc0 e.symm)]
        exact ⟨0, rfl⟩
      · have hs2 : skipJ (r ++ x) = skipJ r ++ x := by rw [skip_app, if_neg hs]
        rw [hs2, hd_app hs, tail_app hs]
        split
        · exact ext_ok x _ _
        · refine ext_bind (takeR_ext x (by decide) _) (fun _ u hu _ => ?_) (fun _ u => good_suf (itemsR_good hg c n _ _) (skip_suf u)) (fun _ u => itemsR_dp hd c n _ _)
          have l1 := takeR_eats _ _ _ _ hu
          have l2 := skip_len r
          by_cases hk : skipJ u = []
          · rw [hk, skip_app, if_pos hk]
            cases n with
            | zero => omega
            | succ m =>
              have e1 : one [] = one [] := rfl
              have hx := h1 []
              have hgd := hg []
              have hdd := hd []
              cases ho : one [] with
              | ok v' r' =>
                exfalso
                have := he [] v' r' ho
                simp at this
              | bad e k =>
                rw [ho] at hx hgd hdd
                have hk0 : k = 0 := by have : k ≤ ([] : List UInt8).length := hgd; simpa using this
                subst hk0
                have e2 : itemsR one c (m + 1) [] (acc ++ [v]) = .bad e 0 := by unfold itemsR; rw [ho]; rfl
                rw [e2]
                refine ⟨fun e57 => absurd rfl (hdd 0 (by rw [e57])), fun hw => ?_⟩
                rw [ws_skip hw]
                cases n' with
                | zero => omega
                | succ m' => exact ⟨0, by unfold itemsR; rw [ho]; rfl, fun h => absurd rfl h⟩
          · have e3 : skipJ (u ++ x) = skipJ u ++ x := by rw [skip_app, if_neg hk]
            rw [e3]
            have l3 := skip_len u
            exact itemsR_ext x h1 hg he hd hc hc0 n n' _ _ (by omega) (by rw [List.length_append]; omega)
    · split
      · exact List.IsSuffix.trans (List.tail_suffix _) (skip_suf r)
      · exact good_suf (good_bind (takeR_good _ _) fun _ u _ => good_suf (itemsR_good hg c n _ _) (skip_suf u)) (skip_suf r)
    · split
      · exact dp_of (no57_ok _ _)
      · exact dp_bind (dp_of (takeR_no _ _)) fun _ _ => itemsR_dp hd c n _ _
theorem rowR_ext {α : Type} (x : List UInt8) {one : List UInt8 → PR α} (h1 : ∀ l, (one l).ext x (one (l ++ x))) (hg : ∀ l, (one l).good l) (he : ∀ l, (one l).eats l) (hd : ∀ l, (one l).dp) {c : UInt8} (hc : wsB c = false) (hc0 : c ≠ 0) (l : List UInt8) :
    (rowR one c l).ext x (rowR one c (l ++ x)) := by
  by_cases hk : skipJ l = []
  · have hgd := hg []
    have hdd := hd []
    cases ho : one [] with
    | ok v' r' =>
      exfalso
      have := he [] v' r' ho
      simp at this
    | bad e k =>
      rw [ho] at hgd hdd
      have hk0 : k = 0 := by have : k ≤ ([] : List UInt8).length := hgd; simpa using this
      subst hk0
      have e2 : ∀ m : List UInt8, skipJ m = [] → rowR one c m = .bad e 0 := by
        intro m hm
        unfold rowR
        rw [hm, if_neg (fun e => hc0 e.symm)]
        unfold itemsR; rw [ho]; rfl
      rw [e2 l hk]
      refine ⟨fun e57 => absurd rfl (hdd 0 (by rw [e57])), fun hw => ⟨0, e2 _ ?_, fun h => absurd rfl h⟩⟩
      rw [skip_app, if_pos hk]; exact ws_skip hw
  · have e3 : skipJ (l ++ x) = skipJ l ++ x := by rw [skip_app, if_neg hk]
    unfold rowR
    rw [e3, hd_app hk, tail_app hk]
    split
    · exact ext_ok x _ _
    · have l3 := skip_len l
      exact itemsR_ext x h1 hg he hd hc hc0 _ _ _ _ (by omega) (by rw [List.length_append, List.length_append]; omega)
theorem pairR_ext (x : List UInt8) {one : List UInt8 → PR JsonD} (h1 : ∀ l, (one l).ext x (one (l ++ x))) (hg : ∀ l, (one l).good l) (he : ∀ l, (one l).eats l) (hd : ∀ l, (one l).dp) (l : List UInt8) : (pairR one l).ext x (pairR one (l ++ x)) := by
  refine ext_bind (textR_ext x l) (fun name r _ _ => ?_) (fun _ r => good_suf (good_bind (takeR_good _ _) fun _ u _ => good_suf (good_bind (hg _) fun _ t _ => List.suffix_refl t) (skip_suf u)) (skip_suf r))
    (fun _ r => dp_bind (dp_of (takeR_no _ _)) fun _ _ => dp_bind (hd _) fun _ _ => dp_of (no57_ok _ _))
  by_cases hs : skipJ r = []
  · rw [hs]
    refine ext_end fun hw => ?_
    rw [skip_app, if_pos hs, ws_skip hw]
    exact ⟨0, rfl⟩
  · have e3 : skipJ (r ++ x) = skipJ r ++ x := by rw [skip_app, if_neg hs]
    rw [e3]
    refine ext_bind (takeR_ext x (by decide) _) (fun _ u _ _ => ?_) (fun _ u => good_suf (good_bind (hg _) fun _ t _ => List.suffix_refl t) (skip_suf u)) (fun _ u => dp_bind (hd _) fun _ _ => dp_of (no57_ok _ _))
    have h2 : ((one (skipJ u)).bind fun v t => PR.ok (name, v) t).ext x ((one (skipJ (u ++ x))).bind fun v t => PR.ok (name, v) t) := by
      by_cases hk : skipJ u = []
      · rw [hk, skip_app, if_pos hk]
        have hgd := hg []
        have hdd := hd []
        cases ho : one [] with
        | ok v' r' =>
          exfalso
          have := he [] v' r' ho
          simp at this
        | bad e k =>
          rw [ho] at hgd hdd
          have hk0 : k = 0 := by have : k ≤ ([] : List UInt8).length := hgd; simpa using this
          subst hk0
          refine ⟨fun e57 => absurd rfl (hdd 0 (by rw [e57])), fun hw => ?_⟩
          rw [ws_skip hw, ho]
          exact ⟨0, rfl, fun h => absurd rfl h⟩
      · have e4 : skipJ (u ++ x) = skipJ u ++ x := by rw [skip_app, if_neg hk]
        rw [e4]
        exact ext_bind (h1 _) (fun v t _ _ => ext_ok x _ t) (fun v t => List.suffix_refl t) (fun v t => dp_of (no57_ok _ _))
    exact h2
theorem constR_ext (x w : List UInt8) (k : Int) (l : List UInt8) (hw : ∀ b ∈ w, wsB b = false) : (constR w k l).ext x (constR w k (l ++ x)) :=
  ext_bind (wordR_ext x w l hw) (fun _ t _ _ => ext_ok x _ t) (fun _ t => List.suffix_refl t) (fun _ t => dp_of (no57_ok _ _))
theorem take_app {l r x : List UInt8} (h : r <:+ l) : (l ++ x).take ((l ++ x).length - (r ++ x).length) = l.take (l.length - r.length) := by
  have e : (l ++ x).length - (r ++ x).length = l.length - r.length := by rw [List.length_append, List.length_append]; omega
  rw [e, List.take_append_of_le_length (by omega)]
theorem atomR_ext (x l : List UInt8) : (atomR l).ext x (atomR (l ++ x)) := by
  by_cases hl : l = []
  · subst hl
    refine ext_end fun hw => ⟨x.length, ?_⟩
    show atomR x = _
    unfold atomR
    have h1 : tenJ (hdB x) = false := (stop_ten (ws_stop hw)).1
    rw [if_neg (ws_hd hw (by decide) (by decide)), if_neg (ws_hd hw (by decide) (by decide)), if_neg (ws_hd hw (by decide) (by decide)), if_neg (ws_hd hw (by decide) (by decide)), if_neg (fun h => h.elim (ws_hd hw (by decide) (by decide)) (fun h => by rw [h1] at h; cases h))]
  · unfold atomR
    rw [hd_app hl]
    split
    · exact ext_bind (textR_ext x l) (fun s t _ _ => ext_ok x _ t) (fun _ t => List.suffix_refl t) (fun _ t => dp_of (no57_ok _ _))
    · split
      · exact constR_ext x _ _ l (by decide)
      · split
        · exact constR_ext x _ _ l (by decide)
        · split
          · exact constR_ext x _ _ l (by decide)
          · split
            · refine ext_bind (numR_ext x l) (fun _ t ht _ => ?_) (fun _ t => List.suffix_refl t) (fun _ t => dp_of (no57_ok _ _))
              have hg := numR_good l
              rw [ht] at hg
              rw [take_app hg]
              exact ext_ok x _ t
            · exact ext_bad x _ _ _ (by rw [List.length_append])
theorem valR_ext (x : List UInt8) : ∀ (d : Nat) (l : List UInt8), (valR d l).ext x (valR d (l ++ x))
  | 0, l => by
    by_cases hl : l = []
    · subst hl
      have := atomR_ext x []
      refine ext_end fun hw => ?_
      obtain ⟨m, h1, _⟩ := this.2 hw
      refine ⟨m, ?_⟩
      show valR 0 x = _
      unfold valR
      rw [if_neg (fun h => h.elim (ws_hd hw (by decide) (by decide)) (ws_hd hw (by decide) (by decide)))]
      exact h1
    · unfold valR
      rw [hd_app hl]
      split
      · exact ext_bad x _ _ _ (by rw [List.length_append])
      · exact atomR_ext x l
  | d + 1, l => by
    by_cases hl : l = []
    · subst hl
      have := atomR_ext x []
      refine ext_end fun hw => ?_
      obtain ⟨m, h1, _⟩ := this.2 hw
      refine ⟨m, ?_⟩
      show valR (d + 1) x = _
      unfold valR
      rw [if_neg (ws_hd hw (by decide) (by decide)), if_neg (ws_hd hw (by decide) (by decide))]
      exact h1
    · unfold valR
      rw [hd_app hl, tail_app hl]
      split
      · exact ext_bind (rowR_ext x (valR_ext x d) (valR_good d) (valR_eats d) (valR_dp d) (by decide) (by decide) _) (fun ks t _ _ => ext_ok x _ t) (fun _ t => List.suffix_refl t) (fun _ t => dp_of (no57_ok _ _))
      · split
        · exact ext_bind (rowR_ext x (pairR_ext x (valR_ext x d) (valR_good d) (valR_eats d) (valR_dp d)) (pairR_good (valR_good d)) (pairR_eats (valR_good d)) (pairR_dp (valR_dp d)) (by decide) (by decide) _) (fun ks t _ _ => ext_ok x _ t) (fun _ t => List.suffix_refl t) (fun _ t => dp_of (no57_ok _ _))
        · exact atomR_ext x l
end Go.Proofs.YtlhhiiemojhjdaaDoor
/- JSON, plain: blanks around a text; a value within a list or under a name. -/
set_option linter.unusedVariables false
set_option linter.unusedSimpArgs false
namespace Go.Proofs.YtlhhiiemojhjdaaDoor
open Go Go.RowKit
theorem skip_ws {b : List UInt8} (hb : wsAll b) (y : List UInt8) : skipJ (b ++ y) = skipJ y := by rw [skip_app, if_pos (ws_skip hb)]
theorem skip_skip (l : List UInt8) : skipJ (skipJ l) = skipJ l := by
  unfold skipJ
  induction l with
  | nil => rfl
  | cons b t ih =>
    by_cases h : wsB b = true
    · rw [List.dropWhile_cons_of_pos h]; exact ih
    · rw [List.dropWhile_cons_of_neg h, List.dropWhile_cons_of_neg h]
/-- What a parse came to. -/
def parseE (s : List UInt8) : Except (Nat × Nat) JsonD := match valR 20 (skipJ s) with
    | .bad e n => .error (e, s.length - n)
    | .ok v t => if skipJ t = [] then .ok v else .error (54, s.length - (skipJ t).length)
theorem parse_E (s : List UInt8) (h : s.length ≤ 8000) : parseJ s = parseE s := by unfold parseJ parseE; rw [if_neg (by omega)]; rfl
theorem val_nil (d : Nat) : valR d [] = .bad 54 0 := by cases d <;> rfl
theorem blanks_law (b s : List UInt8) (hb : wsAll b) :
    (∀ v, parseE s = .ok v → parseE (b ++ s ++ b) = .ok v) ∧
    (∀ e p, parseE s = .error (e, p) → p ≤ s.length ∧ ∃ q, parseE (b ++ s ++ b) = .error (e, q) ∧ (q = p + b.length ∨ p = s.length)) := by
  have e0 : skipJ (b ++ s ++ b) = skipJ (s ++ b) := by rw [List.append_assoc, skip_ws hb]
  have hl : (b ++ s ++ b).length = b.length + s.length + b.length := by simp; omega
  have hsk := skip_len s
  by_cases hs : skipJ s = []
  · have e1 : skipJ (s ++ b) = [] := by rw [skip_app, if_pos hs]; exact ws_skip hb
    have h1 : parseE s = .error (54, s.length) := by unfold parseE; rw [hs, val_nil]; rfl
    have h2 : parseE (b ++ s ++ b) = .error (54, (b ++ s ++ b).length) := by unfold parseE; rw [e0, e1, val_nil]; rfl
    rw [h1, h2]
    refine ⟨(fun v h => by cases h), fun e p h => ?_⟩
    cases h
    exact ⟨Nat.le_refl _, _, rfl, .inr rfl⟩
  · have e1 : skipJ (s ++ b) = skipJ s ++ b := by rw [skip_app, if_neg hs]
    have hx := valR_ext b 20 (skipJ s)
    have hg := valR_good 20 (skipJ s)
    unfold parseE
    rw [e0, e1]
    cases hv : valR 20 (skipJ s) with
    | bad e n =>
      rw [hv] at hx hg
      have hn : n ≤ (skipJ s).length := hg
      obtain ⟨m, h1, h2⟩ := hx.2 hb
      rw [h1]
      refine ⟨(fun v h => by cases h), fun e' p h => ?_⟩
      simp only [Except.error.injEq, Prod.mk.injEq] at h
      obtain ⟨rfl, rfl⟩ := h
      refine ⟨Nat.sub_le _ _, _, rfl, ?_⟩
      by_cases hn0 : n = 0
      · right; omega
      · left; have := h2 hn0; rw [hl]; omega
    | ok v t =>
      rw [hv] at hx hg
      have ht : t.length ≤ (skipJ s).length := List.IsSuffix.length_le hg
      rw [hx (.inr (ws_stop hb))]
      have hkt := skip_len t
      by_cases hk : skipJ t = []
      · have e2 : skipJ (t ++ b) = [] := by rw [skip_app, if_pos hk]; exact ws_skip hb
        simp only [hk, e2, if_true]
        exact ⟨fun v h => h, fun e p h => by cases h⟩
      · have e2 : skipJ (t ++ b) = skipJ t ++ b := by rw [skip_app, if_neg hk]
        have e3 : skipJ t ++ b ≠ [] := by intro h; exact hk (List.append_eq_nil_iff.1 h).1
        simp only [hk, e2, e3, if_false]
        refine ⟨(fun v h => by cases h), fun e' p h => ?_⟩
        simp only [Except.error.injEq, Prod.mk.injEq] at h
        obtain ⟨rfl, rfl⟩ := h
        refine ⟨Nat.sub_le _ _, _, rfl, .inl ?_⟩
        rw [hl, List.length_append]; omega
/-! A smaller depth. -/
def Deep {α : Type} (a b : PR α) : Prop := ∀ v r, a = .ok v r → b = .ok v r ∨ ∃ n, b = .bad 57 n
theorem deep_bind {α β : Type} {a b : PR α} {k k' : α → List UInt8 → PR β} (h : Deep a b) (hk : ∀ v r, Deep (k v r) (k' v r)) : Deep (a.bind k) (b.bind k') := by
  intro v r e
  cases a with
  | bad e' n => cases e
  | ok v' r' =>
    rcases h v' r' rfl with h1 | ⟨n, h1⟩
    · rw [h1]; exact hk v' r' v r e
    · rw [h1]; exact .inr ⟨n, rfl⟩
theorem deep_refl {α : Type} (a : PR α) : Deep a a := fun _ _ h => .inl h
theorem items_deep {α : Type} {one one' : List UInt8 → PR α} (h : ∀ l, Deep (one l) (one' l)) (c : UInt8) : ∀ (n : Nat) (l : List UInt8) (acc : List α), Deep (itemsR one c n l acc) (itemsR one' c n l acc)
  | 0, l, acc => deep_refl _
  | n + 1, l, acc => by
    unfold itemsR
    refine deep_bind (h l) fun v r => ?_
    split
    · exact deep_refl _
    · exact deep_bind (deep_refl _) fun _ u => items_deep h c n _ _
theorem row_deep {α : Type} {one one' : List UInt8 → PR α} (h : ∀ l, Deep (one l) (one' l)) (c : UInt8) (l : List UInt8) : Deep (rowR one c l) (rowR one' c l) := by
  unfold rowR
  split
  · exact deep_refl _
  · exact items_deep h c _ _ _
theorem pair_deep {one one' : List UInt8 → PR JsonD} (h : ∀ l, Deep (one l) (one' l)) (l : List UInt8) : Deep (pairR one l) (pairR one' l) :=
  deep_bind (deep_refl _) fun _ _ => deep_bind (deep_refl _) fun _ _ => deep_bind (h _) fun _ _ => deep_refl _
theorem val_deep : ∀ (d : Nat) (l : List UInt8), Deep (valR (d + 1) l) (valR d l)
  | 0, l => by
    intro v r e
    by_cases hb : hdB l = 91 ∨ hdB l = 123
    · exact .inr ⟨_, by unfold valR; rw [if_pos hb]⟩
    · left
      unfold valR at e ⊢
      rw [if_neg (fun h => hb (.inl h)), if_neg (fun h => hb (.inr h))] at e
      rw [if_neg hb]; exact e
  | d + 1, l => by
    unfold valR
    split
    · exact deep_bind (row_deep (val_deep d) _ _) fun _ _ => deep_refl _
    · split
      · exact deep_bind (row_deep (pair_deep (val_deep d)) _ _) fun _ _ => deep_refl _
      · exact deep_refl _
theorem val_end (d : Nat) {l : List UInt8} (h : hdB l = 93 ∨ hdB l = 125) (v : JsonD) (r : List UInt8) : valR d l ≠ .ok v r := by
  have ha : atomR l = .bad 54 l.length := by
    unfold atomR
    rcases h with h | h <;> (rw [h]; rfl)
  intro e
  cases d with
  | zero =>
    unfold valR at e
    rw [if_neg (by rcases h with h | h <;> (rw [h]; decide)), ha] at e
    cases e
  | succ d =>
    unfold valR at e
    rw [if_neg (by rcases h with h | h <;> (rw [h]; decide)), if_neg (by rcases h with h | h <;> (rw [h]; decide)), ha] at e
    cases e
/-- Within a list, with a number behind; under a name. -/
theorem wrapped_law (s : List UInt8) (j : JsonD) (h : parseE s = .ok j) :
    (parseE (91 :: (s ++ [44, 48, 93])) = .ok (.mk 6 [] [] [j, .mk 4 [48] [] []]) ∧ parseE (123 :: 34 :: 110 :: 34 :: 58 :: (s ++ [125])) = .ok (.mk 7 [] [[110]] [j])) ∨
    ((∃ p, parseE (91 :: (s ++ [44, 48, 93])) = .error (57, p)) ∧ ∃ p, parseE (123 :: 34 :: 110 :: 34 :: 58 :: (s ++ [125])) = .error (57, p)) := by
  unfold parseE at h
  cases hv : valR 20 (skipJ s) with
  | bad e n => rw [hv] at h; cases h
  | ok v t =>
    rw [hv] at h
    simp only at h
    by_cases hk : skipJ t = []
    · rw [if_pos hk] at h
      cases h
      have hs : skipJ s ≠ [] := by intro e; rw [e, val_nil] at hv; cases hv
      have hne : hdB (skipJ s) ≠ 93 ∧ hdB (skipJ s) ≠ 125 := ⟨fun e => val_end 20 (.inl e) _ _ hv, fun e => val_end 20 (.inr e) _ _ hv⟩
      have ex : ∀ x : List UInt8, skipJ (s ++ x) = skipJ s ++ x := fun x => by rw [skip_app, if_neg hs]
      have hx : ∀ x, (valR 19 (skipJ s)).ext x (valR 19 (skipJ s ++ x)) := fun x => valR_ext x 19 (skipJ s)
      have ll : ∀ x : List UInt8, skipJ (91 :: x) = 91 :: x := fun x => rfl
      have lo : ∀ x : List UInt8, skipJ (123 :: x) = 123 :: x := fun x => rfl
      have v20 : ∀ x : List UInt8, valR 20 (91 :: x) = (rowR (valR 19) 93 x).bind fun ks t => .ok (.mk 6 [] [] ks) t := fun x => rfl
      have o20 : ∀ x : List UInt8, valR 20 (123 :: x) = (rowR (pairR (valR 19)) 125 x).bind fun ks t => .ok (.mk 7 [] (ks.map (·.1)) (ks.map (·.2))) t := fun x => rfl
      have er : rowR (valR 19) 93 (s ++ [44, 48, 93]) = (valR 19 (skipJ s ++ [44, 48, 93])).bind fun v r => if hdB (skipJ r) = 93 then .ok ([] ++ [v]) (skipJ r).tail
          else (takeR 44 (skipJ r)).bind fun _ u => itemsR (valR 19) 93 (s ++ [44, 48, 93]).length (skipJ u) ([] ++ [v]) := by
        unfold rowR
        rw [ex, hd_app hs, if_neg hne.1]
        rfl
      have et : textR (34 :: 110 :: 34 :: 58 :: (s ++ [125])) = .ok [110] (58 :: (s ++ [125])) := by
        show txtR ((110 :: 34 :: 58 :: (s ++ [125])).length + 1) (110 :: 34 :: 58 :: (s ++ [125])) [] = _
        rw [txtR, if_neg (by decide), if_neg (by decide), utf_ascii _ _ (by decide), if_neg (by decide)]
        rfl
      have ep : pairR (valR 19) (34 :: 110 :: 34 :: 58 :: (s ++ [125])) = (valR 19 (skipJ s ++ [125])).bind fun v t => .ok ([110], v) t := by
        unfold pairR
        rw [et]
        show ((valR 19 (skipJ (s ++ [125]))).bind fun v t => PR.ok ([110], v) t) = _
        rw [ex]
      have eo : rowR (pairR (valR 19)) 125 (34 :: 110 :: 34 :: 58 :: (s ++ [125])) = (pairR (valR 19) (34 :: 110 :: 34 :: 58 :: (s ++ [125]))).bind fun v r => if hdB (skipJ r) = 125 then .ok ([] ++ [v]) (skipJ r).tail
          else (takeR 44 (skipJ r)).bind fun _ u => itemsR (pairR (valR 19)) 125 (34 :: 110 :: 34 :: 58 :: (s ++ [125])).length (skipJ u) ([] ++ [v]) := rfl
      rcases val_deep 19 (skipJ s) _ _ hv with h9 | ⟨n, h9⟩
      · left
        have hx1 := hx [44, 48, 93]
        have hx2 := hx [125]
        rw [h9] at hx1 hx2
        have g1 := hx1 (.inr rfl)
        have g2 := hx2 (.inr rfl)
        have k1 : skipJ (t ++ [44, 48, 93]) = [44, 48, 93] := by rw [skip_app, if_pos hk]; rfl
        have k2 : skipJ (t ++ [125]) = [125] := by rw [skip_app, if_pos hk]; rfl
        have r1 : rowR (valR 19) 93 (s ++ [44, 48, 93]) = .ok [j, .mk 4 [48] [] []] [] := by
          rw [er, g1]
          show (if hdB (skipJ (t ++ [44, 48, 93])) = 93 then _ else _) = _
          rw [k1, if_neg (by decide)]
          have hl : (s ++ [44, 48, 93]).length = (s.length + 2) + 1 := by simp
          show itemsR (valR 19) 93 (s ++ [44, 48, 93]).length (skipJ [48, 93]) ([] ++ [j]) = _
          rw [hl, itemsR]
          rfl
        have r2 : rowR (pairR (valR 19)) 125 (34 :: 110 :: 34 :: 58 :: (s ++ [125])) = .ok [([110], j)] [] := by
          rw [eo, ep, g2]
          show (if hdB (skipJ (t ++ [125])) = 125 then _ else _) = _
          rw [k2, if_pos (by decide)]
          rfl
        refine ⟨?_, ?_⟩
        · unfold parseE; rw [ll, v20, r1]; rfl
        · unfold parseE; rw [lo, o20, r2]; rfl
      · right
        have hx1 := hx [44, 48, 93]
        have hx2 := hx [125]
        rw [h9] at hx1 hx2
        have g1 := hx1.1 rfl
        have g2 := hx2.1 rfl
        refine ⟨?_, ?_⟩
        · unfold parseE; rw [ll, v20, er, g1]; exact ⟨_, rfl⟩
        · unfold parseE; rw [lo, o20, eo, ep, g2]; exact ⟨_, rfl⟩
    · rw [if_neg hk] at h; cases h
end Go.Proofs.YtlhhiiemojhjdaaDoor
