/- Texts of this proof, laid into one: JcA, Boo, JqA, JcB, JcC. -/
import Derived.Test.YtcbepjepcabllaaGreatDoorMk08
import Derived.SizedLaws
import Derived.Deep.Slices
/- Plain laws: a disk whose power goes on the way: what is pending then, and what is left of it. -/
set_option linter.unusedVariables false
set_option linter.unusedSimpArgs false
namespace Go.Proofs.YtcbepjepcabllaaGreatDoor
open Go Go.RowKit
/-- The disk as it would be with power, and no fuse. -/
def lvD (d : DskS) : DskS := { d with gone := false, fuse := -1 }
structure OnD (d : DskS) : Prop where
  gone : d.gone = false
  dead : d.dead = false
  ok : d.Ok
theorem lvD_ok {d : DskS} (h : d.Ok) : (lvD d).Ok := ⟨h.len, h.most, ⟨by show (-1 : Int) ≤ -1; decide, by show (-1 : Int) ≤ _; decide⟩, h.wait⟩
theorem OnD.live {d : DskS} (h : OnD d) : Live (lvD d) := ⟨rfl, h.dead, by show (-1 : Int) < 0; decide, lvD_ok h.ok⟩
theorem OnD.lv {d : DskS} (h : OnD d) : OnD (lvD d) := ⟨rfl, h.dead, lvD_ok h.ok⟩
theorem Live.on {d : DskS} (h : Live d) : OnD d := ⟨h.gone, h.dead, h.ok⟩
/-- A step does what it does with power there, or the power goes (and M tells what is there then). -/
def Sim (M : DskS → DskS → Prop) (op : DskS → DskS × Int) (d : DskS) : Prop :=
  ((op d).2 = 0 ∧ OnD (op d).1 ∧ lvD (op d).1 = (op (lvD d)).1) ∨ ((op d).2 = 10 ∧ (op d).1.gone = true ∧ (op d).1.dead = false ∧ (op d).1.Ok ∧ M (lvD d) (lvD (op d).1))
theorem OnD.ready {d : DskS} (h : OnD d) {k : Nat} (hk : k < d.n) : readyC d (k : Int) = 0 := by
  unfold readyC
  rw [h.gone, h.dead, if_neg (by decide), if_neg (by decide), if_neg (by omega)]
theorem act_zero {d : DskS} (h : OnD d) (hf : d.fuse = 0) : (actD d).gone = true ∧ (actD d).dead = false ∧ (actD d).Ok ∧ lvD (actD d) = lvD d := by
  unfold actD
  rw [if_pos hf]
  exact ⟨rfl, h.dead, ⟨h.ok.len, h.ok.most, h.ok.fuse, h.ok.wait⟩, rfl⟩
theorem act_on {d : DskS} (h : OnD d) (hf : ¬ d.fuse = 0) : ∃ f, actD d = { d with fuse := f } ∧ -1 ≤ f ∧ f ≤ 9223372036854775807 := by
  unfold actD
  rw [if_neg hf]
  refine ⟨_, rfl, ?_⟩
  have := h.ok.fuse
  split <;> omega
/-- Writes that are pending now were pending, or are among A. -/
def RA (A : Nat × List UInt8 → Prop) (d d' : DskS) : Prop := d'.has = d.has ∧ d'.dead = d.dead ∧ ∀ p ∈ d'.wait, p ∈ d.wait ∨ A p
theorem RA.refl (A : Nat × List UInt8 → Prop) (d : DskS) : RA A d d := ⟨rfl, rfl, fun p hp => .inl hp⟩
theorem RA.trans {A : Nat × List UInt8 → Prop} {a b c : DskS} (h : RA A a b) (k : RA A b c) : RA A a c :=
  ⟨k.1.trans h.1, k.2.1.trans h.2.1, fun p hp => by rcases k.2.2 p hp with h1 | h1; exact h.2.2 p h1; exact .inr h1⟩
theorem RA.mono {A B : Nat × List UInt8 → Prop} {a b : DskS} (h : RA A a b) (hs : ∀ p, A p → B p) : RA B a b := ⟨h.1, h.2.1, fun p hp => (h.2.2 p hp).imp id (hs p)⟩
theorem RA.n {A : Nat × List UInt8 → Prop} {a b : DskS} (h : RA A a b) : b.n = a.n := by unfold DskS.n; rw [h.1]
/-- A step that lays writes of A down. -/
def AddP (n : Nat) (A : Nat × List UInt8 → Prop) (op : DskS → DskS × Int) : Prop := ∀ d, OnD d → d.n = n → (op (lvD d)).2 = 0 ∧ Sim (RA A) op d ∧ RA A (lvD d) (op (lvD d)).1
theorem AddP.mono {n : Nat} {A B : Nat × List UInt8 → Prop} {op : DskS → DskS × Int} (h : AddP n A op) (hs : ∀ p, A p → B p) : AddP n B op := fun d hd hn => by
  obtain ⟨h1, h2, h3⟩ := h d hd hn
  refine ⟨h1, ?_, h3.mono hs⟩
  rcases h2 with h2 | ⟨a, b, c, e, f⟩
  · exact .inl h2
  · exact .inr ⟨a, b, c, e, f.mono hs⟩
theorem AddP.next {n : Nat} {A : Nat × List UInt8 → Prop} {op : DskS → DskS × Int} (h : AddP n A op) {d : DskS} (hd : OnD d) (hn : d.n = n) : OnD (op (lvD d)).1 ∧ (op (lvD d)).1.n = n ∧ lvD (op (lvD d)).1 = (op (lvD d)).1 := by
  obtain ⟨z, s, r⟩ := h d hd hn
  obtain ⟨_, s2, _⟩ := h (lvD d) hd.lv hn
  rcases s2 with ⟨_, h2, h3⟩ | ⟨h2, _⟩
  · exact ⟨h2, r.n.trans hn, h3⟩
  · rw [z] at h2; cases h2
theorem AddP.bind {n : Nat} {A : Nat × List UInt8 → Prop} {o1 o2 : DskS → DskS × Int} (h1 : AddP n A o1) (h2 : AddP n A o2) : AddP n A (fun d => bindE (o1 d) o2) := fun d hd hn => by
  obtain ⟨z1, s1, r1⟩ := h1 d hd hn
  obtain ⟨c1, c2, c3⟩ := h1.next hd hn
  obtain ⟨z2, s2, r2⟩ := h2 _ c1 c2
  rw [c3] at z2 r2
  refine ⟨by dsimp only; rw [bindE_ok z1]; exact z2, ?_, by dsimp only; rw [bindE_ok z1]; exact r1.trans r2⟩
  unfold Sim
  dsimp only
  rw [bindE_ok z1]
  rcases s1 with ⟨a1, a2, a3⟩ | ⟨a1, a2, a3, a4, a5⟩
  · rw [bindE_ok a1]
    obtain ⟨_, s3, _⟩ := h2 _ a2 (by rw [← hn]; have := r1.n; rw [← a3] at this; exact this)
    rcases s3 with ⟨b1, b2, b3⟩ | ⟨b1, b2, b3, b4, b5⟩
    · exact .inl ⟨b1, b2, by rw [b3, a3]⟩
    · rw [a3] at b5
      exact .inr ⟨b1, b2, b3, b4, r1.trans b5⟩
  · rw [bindE_no (by rw [a1]; decide)]
    exact .inr ⟨a1, a2, a3, a4, a5⟩
theorem AddP.nil (n : Nat) (A : Nat × List UInt8 → Prop) : AddP n A (fun d => (d, 0)) := fun d hd hn => ⟨rfl, .inl ⟨rfl, hd, rfl⟩, RA.refl _ _⟩
theorem AddP.write {n : Nat} {A : Nat × List UInt8 → Prop} {k : Nat} (hk : k < n) {s : List UInt8} (hs : s.length = 64) (ha : A (k, s)) : AddP n A (fun d => (writeD d (k : Int) s, writeC d (k : Int) s)) := fun d hd hn => by
  subst hn
  have e1 := writeD_live hd.live (k := k) hk hs
  have e2 := writeC_live hd.live (k := k) hk hs
  have hr := hd.ready hk
  refine ⟨e2, ?_, ?_⟩
  · unfold Sim
    simp only
    rw [e1]
    by_cases hf : d.fuse = 0
    · obtain ⟨a1, a2, a3, a4⟩ := act_zero hd hf
      have e3 : writeD d (k : Int) s = actD d := by unfold writeD; rw [if_neg (by rw [hr]; simp [hs]), if_pos hf]
      have e4 : writeC d (k : Int) s = 10 := by unfold writeC; rw [if_neg (by rw [hr]; simp), if_neg (by simp [hs]), if_pos hf]
      rw [e3, e4, a4]
      exact .inr ⟨rfl, a1, a2, a3, RA.refl _ _⟩
    · obtain ⟨f, hf1, hf2⟩ := act_on hd hf
      have e3 : writeD d (k : Int) s = { d with fuse := f, wait := d.wait ++ [(k, s)] } := by unfold writeD; rw [if_neg (by rw [hr]; simp [hs]), if_neg hf, hf1]; rfl
      have e4 : writeC d (k : Int) s = 0 := by unfold writeC; rw [if_neg (by rw [hr]; simp), if_neg (by simp [hs]), if_neg hf]
      rw [e3, e4]
      refine .inl ⟨rfl, ⟨hd.gone, hd.dead, ⟨hd.ok.len, hd.ok.most, hf2, fun p hp => ?_⟩⟩, rfl⟩
      rcases List.mem_append.1 hp with hp | hp
      · exact hd.ok.wait p hp
      · rw [List.mem_singleton.1 hp]; exact ⟨hk, hs⟩
  · show RA A (lvD d) (writeD (lvD d) (k : Int) s)
    rw [e1]
    refine ⟨rfl, rfl, fun p hp => ?_⟩
    rcases List.mem_append.1 hp with hp | hp
    · exact .inl hp
    · rw [List.mem_singleton.1 hp]; exact .inr ha
/-- The writes of sectors s from k on. -/
def wrA (j : JrnS) (sec : Bool) (m k : Nat) (s : List UInt8) (p : Nat × List UInt8) : Prop := ∃ i, i < m ∧ p.1 = atJ j sec (k + i) ∧ p.2 = sub s (64 * i) (64 * i + 64)
theorem at_lt {j : JrnS} {sec : Bool} {n k : Nat} (hp : j.first + 2 * j.half ≤ n) (hk : k < j.half) : atJ j sec k < n := by unfold atJ; split <;> omega
theorem AddP.wr {n : Nat} {j : JrnS} {sec : Bool} (hp : j.first + 2 * j.half ≤ n) (m : Nat) : ∀ (k : Nat) (s : List UInt8), k + m ≤ j.half → s.length = 64 * m → AddP n (wrA j sec m k s) (wrJ j sec m k s) := by
  induction m with
  | zero => intro k s _ _; exact AddP.nil n _
  | succ m ih =>
    intro k s hk hs
    have hs0 : (sub s 0 64).length = 64 := by rw [length_sub]; omega
    have hs1 : (sub s 64 s.length).length = 64 * m := by rw [length_sub]; omega
    have h1 := AddP.write (n := n) (A := wrA j sec (m + 1) k s) (k := atJ j sec k) (at_lt hp (by omega)) hs0 ⟨0, by omega, rfl, rfl⟩
    have h2 := (ih (k + 1) (sub s 64 s.length) (by omega) hs1).mono (B := wrA j sec (m + 1) k s) (by
      rintro p ⟨i, hi, e1, e2⟩
      refine ⟨i + 1, by omega, by rw [e1]; congr 1; omega, ?_⟩
      rw [e2]
      unfold sub
      rw [List.take_length, List.take_drop, List.drop_drop]
      congr 1
      · omega
      · congr 1; omega)
    have e2 : wrJ j sec (m + 1) k s = fun d => bindE (writeD d (atJ j sec k : Int) (sub s 0 64), writeC d (atJ j sec k : Int) (sub s 0 64)) (wrJ j sec m (k + 1) (sub s 64 s.length)) := rfl
    rw [e2]
    exact h1.bind h2
def clA (j : JrnS) (sec : Bool) (k : Nat) (p : Nat × List UInt8) : Prop := k < j.half ∧ p = (atJ j sec k, blankL)
theorem AddP.clean {n : Nat} {j : JrnS} {sec : Bool} (hp : j.first + 2 * j.half ≤ n) (k : Nat) : AddP n (clA j sec k) (cleanJ j sec k) := by
  by_cases hk : j.half ≤ k
  · have e : cleanJ j sec k = fun d => (d, 0) := by funext d; unfold cleanJ; rw [if_pos hk]
    rw [e]; exact AddP.nil n _
  · have e : cleanJ j sec k = fun d => (writeD d (atJ j sec k : Int) blankL, writeC d (atJ j sec k : Int) blankL) := by funext d; unfold cleanJ; rw [if_neg hk]
    rw [e]
    exact AddP.write (at_lt hp (by omega)) blankL_len ⟨by omega, rfl⟩
/-- The writes of these, one behind the other, from k on. -/
def allA (j : JrnS) (sec : Bool) (k m : Nat) (p : Nat × List UInt8) : Prop := ∃ i, i < m ∧ p.1 = atJ j sec (k + i)
theorem AddP.wrAll {n : Nat} {j : JrnS} {sec : Bool} (hp : j.first + 2 * j.half ≤ n) (ls : List (List UInt8)) : ∀ (k : Nat), k + sumM ls ≤ j.half → (∀ s ∈ ls, s.length = 64 * (s.length / 64)) → AddP n (allA j sec k (sumM ls)) (wrAll j sec k ls) := by
  induction ls with
  | nil => intro k _ _; exact AddP.nil n _
  | cons s r ih =>
    intro k hk hl
    rw [sumM_cons] at hk ⊢
    have h1 := (AddP.wr (sec := sec) hp (s.length / 64) k s (by omega) (hl s List.mem_cons_self)).mono (B := allA j sec k (s.length / 64 + sumM r)) (by
      rintro p ⟨i, hi, e1, _⟩; exact ⟨i, by omega, e1⟩)
    have h2 := (ih (k + s.length / 64) (by omega) (fun t ht => hl t (List.mem_cons_of_mem _ ht))).mono (B := allA j sec k (s.length / 64 + sumM r)) (by
      rintro p ⟨i, hi, e1⟩; exact ⟨s.length / 64 + i, by omega, by rw [e1]; congr 1; omega⟩)
    exact h1.bind h2
theorem flush_sim {d : DskS} (hd : OnD d) (h0 : 0 < d.n) : (flushR (lvD d)).2 = 0 ∧ Sim (fun a b => b = a) flushR d := by
  have hr : readyC d 0 = 0 := hd.ready h0
  have hrl : readyC (lvD d) 0 = 0 := hd.live.ready (k := 0) h0
  refine ⟨(live_flush hd.live h0).1, ?_⟩
  have e1 : (flushR (lvD d)).1 = { lvD d with has := d.cur, wait := [] } := by
    show flushD (lvD d) = _
    unfold flushD; rw [hrl]; simp [hd.live.fuse0, hd.live.act]; rfl
  unfold Sim
  rw [e1]
  by_cases hf : d.fuse = 0
  · obtain ⟨a1, a2, a3, a4⟩ := act_zero hd hf
    have e3 : (flushR d).1 = actD d := by show flushD d = _; unfold flushD; rw [hr]; simp [hf]
    have e4 : (flushR d).2 = 10 := by show flushC d = _; unfold flushC; rw [hr]; simp [hf]
    rw [e3, e4, a4]
    exact .inr ⟨rfl, a1, a2, a3, rfl⟩
  · obtain ⟨f, hf1, hf2⟩ := act_on hd hf
    have e3 : (flushR d).1 = { d with fuse := f, has := d.cur, wait := [] } := by show flushD d = _; unfold flushD; rw [hr]; simp [hf, hf1]
    have e4 : (flushR d).2 = 0 := by show flushC d = _; unfold flushC; rw [hr]; simp [hf]
    have hl := curL_len d.wait d.has hd.ok.len hd.ok.wait
    have hn : DskS.n { d with fuse := f, has := d.cur, wait := [] } = d.n := by unfold DskS.n DskS.cur; simp only; rw [hl]
    rw [e3, e4]
    exact .inl ⟨rfl, ⟨hd.gone, hd.dead, ⟨by rw [hn]; exact hl.trans hd.ok.len, by rw [hn]; exact hd.ok.most, hf2, fun p hp => by cases hp⟩⟩, rfl⟩
/-- Writes, flushed, then more, flushed. -/
def twoP (o1 o2 : DskS → DskS × Int) (d : DskS) : DskS × Int := bindE (bindE (o1 d) flushR) fun d3 => bindE (o2 d3) flushR
theorem bindE_assoc (r : DskS × Int) (f g : DskS → DskS × Int) : bindE (bindE r f) g = bindE r fun d => bindE (f d) g := by
  by_cases h : r.2 = 0
  · rw [bindE_ok h, bindE_ok h]
  · rw [bindE_no h, bindE_no h, bindE_no h]
theorem flush_n {d : DskS} (hd : OnD d) (h0 : 0 < d.n) : OnD (flushR (lvD d)).1 ∧ (flushR (lvD d)).1.n = d.n ∧ lvD (flushR (lvD d)).1 = (flushR (lvD d)).1 := by
  obtain ⟨h1, h2, h3, h4, _⟩ := live_flush hd.live h0
  obtain ⟨_, s⟩ := flush_sim hd.lv h0
  rcases s with ⟨_, _, e⟩ | ⟨e, _⟩
  · exact ⟨h2.on, h3, e⟩
  · rw [h1] at e; cases e
theorem two_sim {n : Nat} {A1 A2 : Nat × List UInt8 → Prop} {o1 o2 : DskS → DskS × Int} (h1 : AddP n A1 o1) (h2 : AddP n A2 o2) {d : DskS} (hd : OnD d) (hn : d.n = n) (h0 : 0 < n) :
    Sim (fun a b => RA A1 a b ∨ RA A2 (bindE (o1 a) flushR).1 b) (twoP o1 o2) d := by
  obtain ⟨z1, s1, r1⟩ := h1 d hd hn
  obtain ⟨c1, c2, c3⟩ := h1.next hd hn
  obtain ⟨zf, _⟩ := flush_sim c1 (by rw [c2]; exact h0)
  obtain ⟨f1, f2, f3⟩ := flush_n c1 (by rw [c2]; exact h0)
  rw [c3] at f1 f2 f3 zf
  obtain ⟨z2, _, r2⟩ := h2 _ f1 (f2.trans c2)
  obtain ⟨g1, g2, g3⟩ := h2.next f1 (f2.trans c2)
  rw [f3] at z2 r2 g1 g2 g3
  have eL : twoP o1 o2 (lvD d) = flushR (o2 (flushR (o1 (lvD d)).1).1).1 := by
    unfold twoP; rw [bindE_ok z1, bindE_ok zf, bindE_ok z2]
  have eM : (bindE (o1 (lvD d)) flushR).1 = (flushR (o1 (lvD d)).1).1 := by rw [bindE_ok z1]
  unfold Sim
  dsimp only
  rw [eL, eM]
  rcases s1 with ⟨a1, a2, a3⟩ | ⟨a1, a2, a3, a4, a5⟩
  case inr =>
    have e : twoP o1 o2 d = o1 d := by unfold twoP; rw [bindE_no (r := o1 d) (by rw [a1]; decide), bindE_no (by rw [a1]; decide)]
    rw [e]
    exact .inr ⟨a1, a2, a3, a4, .inl a5⟩
  have hn1 : (o1 d).1.n = n := by rw [← hn]; have := r1.n; rw [← a3] at this; exact this
  obtain ⟨_, sf⟩ := flush_sim a2 (by rw [hn1]; exact h0)
  rcases sf with ⟨b1, b2, b3⟩ | ⟨b1, b2, b3, b4, b5⟩
  case inr =>
    have e : twoP o1 o2 d = flushR (o1 d).1 := by unfold twoP; rw [bindE_ok a1, bindE_no (by rw [b1]; decide)]
    rw [e]
    exact .inr ⟨b1, b2, b3, b4, .inl (by rw [b5, a3]; exact r1)⟩
  rw [a3] at b3
  have hn2 : (flushR (o1 d).1).1.n = n := by have := f2; rw [← b3] at this; exact this.trans c2
  obtain ⟨_, s3, _⟩ := h2 _ b2 hn2
  rcases s3 with ⟨d1, d2, d3⟩ | ⟨d1, d2, d3, d4, d5⟩
  case inr =>
    have e : twoP o1 o2 d = o2 (flushR (o1 d).1).1 := by unfold twoP; rw [bindE_ok a1, bindE_ok b1, bindE_no (by rw [d1]; decide)]
    rw [e]
    rw [b3] at d5
    exact .inr ⟨d1, d2, d3, d4, .inr d5⟩
  rw [b3] at d3
  have hn3 : (o2 (flushR (o1 d).1).1).1.n = n := by have := g2; rw [← d3] at this; exact this
  obtain ⟨_, s4⟩ := flush_sim d2 (by rw [hn3]; exact h0)
  have e : twoP o1 o2 d = flushR (o2 (flushR (o1 d).1).1).1 := by unfold twoP; rw [bindE_ok a1, bindE_ok b1, bindE_ok d1]
  rw [e]
  rcases s4 with ⟨e1, e2, e3⟩ | ⟨e1, e2, e3, e4, e5⟩
  · exact .inl ⟨e1, e2, by rw [e3, d3]⟩
  · exact .inr ⟨e1, e2, e3, e4, .inr (by rw [e5, d3]; exact r2)⟩
/-- What Lose leaves of what lasts: behind the first i of the pending ones, and how many bytes of the next one that is lost. -/
def loseS (im : List UInt8) (wait : List (Nat × List UInt8)) (keep : List Bool) (torn : Nat) : Nat → List UInt8 × Nat
  | 0 => (im, torn)
  | i + 1 => match wait[i]? with
    | none => loseS im wait keep torn i
    | some p => if keep.getD i false then (putS (loseS im wait keep torn i).1 p.1 p.2, (loseS im wait keep torn i).2) else (putS (loseS im wait keep torn i).1 p.1 (p.2.take (loseS im wait keep torn i).2), 0)
theorem sub_put_t {im : List UInt8} {k i n : Nat} {s : List UInt8} (hs : s.length ≤ 64) (hk : k < n) (hi : i < n) (hl : im.length = 64 * n) :
    sub (putS im k s) (i * 64) (i * 64 + 64) = if i = k then s ++ (sub im (k * 64) (k * 64 + 64)).drop s.length else sub im (i * 64) (i * 64 + 64) := by
  unfold sub putS
  refine List.ext_getElem? fun q => ?_
  by_cases e : i = k
  · subst e
    rw [if_pos rfl]
    simp only [List.getElem?_drop, List.getElem?_take]
    by_cases hq : q < 64
    · rw [if_pos (by omega), List.append_assoc, List.getElem?_append_right (by rw [List.length_take]; omega), List.length_take, show i * 64 + q - min (i * 64) im.length = q by omega]
      by_cases hq2 : q < s.length
      · rw [List.getElem?_append_left hq2, List.getElem?_append_left hq2]
      · rw [List.getElem?_append_right (by omega), List.getElem?_append_right (by omega)]
        simp only [List.getElem?_drop, List.getElem?_take]
        rw [if_pos (by omega)]; congr 1; omega
    · rw [if_neg (by omega), List.getElem?_append_right (by omega)]
      simp only [List.getElem?_drop, List.getElem?_take]
      rw [if_neg (by omega)]
  · rw [if_neg e]
    simp only [List.getElem?_drop, List.getElem?_take]
    by_cases hq : q < 64
    · rw [if_pos (by omega), if_pos (by omega)]
      rcases Nat.lt_or_ge i k with h | h
      · rw [List.append_assoc, List.getElem?_append_left (by rw [List.length_take]; omega), List.getElem?_take, if_pos (by omega)]
      · rw [List.getElem?_append_right (by rw [List.length_append, List.length_take]; omega), List.length_append, List.length_take, List.getElem?_drop]
        congr 1; omega
    · rw [if_neg (by omega), if_neg (by omega)]
theorem lose_inv {im : List UInt8} {wait : List (Nat × List UInt8)} {keep : List Bool} {torn n : Nat} (hl : im.length = 64 * n) (hw : ∀ p ∈ wait, p.1 < n ∧ p.2.length = 64) (ht : torn ≤ 64) (i : Nat) :
    (loseS im wait keep torn i).1.length = 64 * n ∧ (loseS im wait keep torn i).2 ≤ 64 ∧ ∀ q, q < n → ∀ I : List UInt8 → Prop, I (sub im (q * 64) (q * 64 + 64)) →
      (∀ x, I x → x.length = 64 → ∀ p ∈ wait, p.1 = q → ∀ t, t ≤ 64 → I (p.2.take t ++ x.drop t)) → I (sub (loseS im wait keep torn i).1 (q * 64) (q * 64 + 64)) := by
  induction i with
  | zero => exact ⟨hl, ht, fun q hq I h _ => h⟩
  | succ i ih =>
    obtain ⟨h1, h2, h3⟩ := ih
    unfold loseS
    split
    · exact ⟨h1, h2, h3⟩
    · rename_i p hp
      have hm : p ∈ wait := List.mem_of_getElem? hp
      obtain ⟨p1, p2⟩ := hw p hm
      have step : ∀ t, t ≤ 64 → (putS (loseS im wait keep torn i).1 p.1 (p.2.take t)).length = 64 * n ∧ ∀ q, q < n → ∀ I : List UInt8 → Prop, I (sub im (q * 64) (q * 64 + 64)) →
          (∀ x, I x → x.length = 64 → ∀ p ∈ wait, p.1 = q → ∀ t, t ≤ 64 → I (p.2.take t ++ x.drop t)) → I (sub (putS (loseS im wait keep torn i).1 p.1 (p.2.take t)) (q * 64) (q * 64 + 64)) := by
        intro t ht
        have htl : (p.2.take t).length = t := by rw [List.length_take]; omega
        refine ⟨by rw [putS_len (by omega)]; exact h1, fun q hq I hI hA => ?_⟩
        rw [sub_put_t (by omega) p1 hq h1]
        split
        · rename_i e
          subst e
          rw [htl]
          exact hA _ (h3 p.1 hq I hI hA) (by rw [length_sub]; omega) p hm rfl t ht
        · exact h3 q hq I hI hA
      split
      · have e : p.2 = p.2.take 64 := (List.take_of_length_le (by omega)).symm
        obtain ⟨s1, s2⟩ := step 64 (Nat.le_refl _)
        rw [← e] at s1 s2
        exact ⟨s1, h2, s2⟩
      · obtain ⟨s1, s2⟩ := step _ h2
        exact ⟨s1, Nat.zero_le _, s2⟩
/-- Behind a crash: some writes lasted, power is there again. -/
def crashD (d : DskS) (keep : List Bool) (torn : Nat) : DskS := { d with has := (loseS d.has d.wait keep torn d.wait.length).1, wait := [], gone := false, fuse := -1 }
theorem crash_live {d : DskS} (h : d.Ok) (hd : d.dead = false) (keep : List Bool) {torn : Nat} (ht : torn ≤ 64) : Live (crashD d keep torn) ∧ (crashD d keep torn).n = d.n ∧ (crashD d keep torn).wait = [] := by
  have hl := (lose_inv (keep := keep) h.len h.wait ht d.wait.length).1
  have hn : (crashD d keep torn).n = d.n := by unfold DskS.n crashD; simp only; rw [hl]; unfold DskS.n; omega
  exact ⟨⟨rfl, hd, by show (-1 : Int) < 0; decide, ⟨by rw [hn]; exact hl, by rw [hn]; exact h.most, ⟨by show (-1 : Int) ≤ -1; decide, by show (-1 : Int) ≤ _; decide⟩, fun p hp => by cases hp⟩⟩, hn, rfl⟩
theorem crash_none {d : DskS} (hw : d.wait = []) (keep : List Bool) (torn : Nat) : crashD d keep torn = lvD d := by
  unfold crashD lvD
  rw [hw]
  show ({ d with has := d.has, wait := [], gone := false, fuse := -1 } : DskS) = _
  rw [← hw]
theorem readL_nil {d : DskS} (h : d.wait = []) (q : Nat) : readL d q = sub d.has (q * 64) (q * 64 + 64) := by unfold readL; rw [h]; rfl
theorem crash_read {A : Nat × List UInt8 → Prop} {d0 d : DskS} (hR : RA A d0 (lvD d)) (h0 : d0.wait = []) (hok : d.Ok) (keep : List Bool) {torn : Nat} (ht : torn ≤ 64) {q : Nat} (hq : q < d.n) (I : List UInt8 → Prop) (hI : I (readL d0 q))
    (hA : ∀ x, I x → x.length = 64 → ∀ p, A p → p.1 = q → ∀ t, t ≤ 64 → I (p.2.take t ++ x.drop t)) : I (readL (crashD d keep torn) q) := by
  rw [readL_nil rfl]
  rw [readL_nil h0] at hI
  have e : d.has = d0.has := hR.1
  refine (lose_inv hok.len hok.wait ht d.wait.length).2.2 q hq I (by rw [e]; exact hI) fun x hx hl p hp hpq t htt => ?_
  rcases hR.2.2 p hp with h1 | h1
  · rw [h0] at h1; cases h1
  · exact hA x hx hl p h1 hpq t htt
end Go.Proofs.YtcbepjepcabllaaGreatDoor
/- Slices of bools. -/
set_option linter.unusedVariables false
namespace Go.Proofs.YtcbepjepcabllaaGreatDoor
open Go Go.RowKit Go.ChangeShapes Go.WideShapes Go.Deep
/-- The slice holds these bools. -/
def BoolsAt (w : World) (A : Option Addr) (n : Nat) (bs : List Bool) : Prop :=
  n = bs.length ∧ (0 < n → ∃ g off, A = some ⟨g, off, none⟩ ∧ ∀ i (h : i < bs.length), w.cell? ⟨g, off + i, none⟩ = some (.bool bs[i]))
theorem BoolsAt.q {w w' : World} {A : Option Addr} {n : Nat} {bs : List Bool} (h : BoolsAt w A n bs) (hq : Q w w') : BoolsAt w' A n bs :=
  ⟨h.1, fun h0 => let ⟨g, off, e, hc⟩ := h.2 h0; ⟨g, off, e, fun i hi => hq.cell (hc i hi)⟩⟩
theorem BoolsAt.at {w : World} {A : Option Addr} {n : Nat} {bs : List Bool} (h : BoolsAt w A n bs) {i : Nat} (hi : i < n) : ∃ g off, A = some ⟨g, off, none⟩ ∧ w.cell? ⟨g, off + i, none⟩ = some (.bool (bs.getD i false)) := by
  obtain ⟨g, off, e, hc⟩ := h.2 (by omega)
  have hi' : i < bs.length := by rw [← h.1]; exact hi
  refine ⟨g, off, e, ?_⟩
  rw [hc i hi']; simp [List.getD, hi']
section
variable {H : Type} {enc : TypeId × Value → H} {W : World} {hd : Bool}
set_option maxRecDepth 100000 in
theorem bools_open {b0 : Nat} {v : Value} {d : DataW H} {q : List MemPlace} (hv : Value.okWide Tryz.prog W .any b0 46 v) (h : DataW.Trod enc Tryz.prog W 0 (fun _ => true) hd 46 v d q) :
    ∃ A n cap bs, v = .slice A n cap ∧ BoolsAt W A n bs ∧ n ≤ 9223372036854775807 := by
  obtain ⟨A, len, cap, rfl⟩ := okWide_slice Tryz.underlying46 hv
  obtain ⟨fuel, hf⟩ := h
  have hc : Tryz.prog.cellsOf 4 = 1 := by kernel_rfl
  rcases open_slice1 Tryz.underlying46 hc hf with ⟨hcs, hx⟩ | ⟨a, len', cap', m, n, V, D, Pl, hcs, _, hl, hm, hmm, hx, hcell⟩
  · simp [Value.cells] at hcs
    obtain ⟨rfl, rfl, rfl⟩ := hcs
    exact ⟨none, 0, 0, [], rfl, ⟨rfl, fun h => absurd h (by omega)⟩, by omega⟩
  · simp [Value.cells] at hcs
    obtain ⟨rfl, rfl, rfl⟩ := hcs
    simp only [if_true] at hmm
    subst hmm
    obtain ⟨B, hB⟩ := choose_lt (α := Bool) (p := fun i b => W.cell? (a.add i) = some (.bool b)) (fun i hi => by
      obtain ⟨b, h1, _⟩ := DataW.trod_bool Tryz.underlying4 (hcell i hi).2
      refine ⟨b, ?_⟩
      rw [(hcell i hi).1]
      simpa using h1)
    have hmx : m ≤ 9223372036854775807 := by unfold maxLen at hm; omega
    refine ⟨some a, len, m, (List.range len).map B, rfl, ⟨by simp, fun h0 => ?_⟩, by omega⟩
    have h00 := hB 0 (by omega)
    obtain ⟨g, off, spot⟩ := a
    have hsp : spot = none := by
      unfold Addr.add World.cell? at h00
      simp only [Nat.add_zero, if_true] at h00
      split at h00
      · cases spot with
        | none => rfl
        | some s => simp at h00
      · cases h00
    subst hsp
    refine ⟨g, off, rfl, fun i hi => ?_⟩
    have hi' : i < len := by simpa using hi
    have := hB i (by omega)
    unfold Addr.add at this
    by_cases h0 : i = 0
    · subst h0; simpa using this
    · rw [if_neg h0] at this; simpa using this
end
end Go.Proofs.YtcbepjepcabllaaGreatDoor
/- Power: Fuse, On, Gone; Lose. -/
set_option linter.unusedVariables false
set_option linter.unusedSimpArgs false
namespace Go.Proofs.YtcbepjepcabllaaGreatDoor
open Go Go.RowKit
set_option maxHeartbeats 1000000 in
theorem Fuse_any {w0 w : World} {bd bp gh : Nat} {d : DskS} (n : Int) (h : DAt w0 w bd bp gh d) (hn : 0 ≤ n ∧ n ≤ 9223372036854775807) :
    Calls Tryz.prog 41 #[.pointer (some ⟨bp, 0, none⟩), .int .i64 n] w fun e w' => e = .returned (.tuple #[]) ∧ DAt w0 w' bd bp gh { d with fuse := n } ∧ K w0 [] w w' := by
  obtain ⟨acts, hp, ha⟩ := h.pow
  have p1 := h.fuse_cell
  have f1 := frozen_of_row w bp 1 _ _ hp
  have hm : max n (-1) = n := by omega
  have HM := Lib.hid hm
  have HH := Lib.hid (h.powset d.gone n acts ha (by omega) (gb_setCell w bp 1 (.int .i64 n)) (by rw [heap_setCell_any w bp 1 _ _ _ _ hp]; rfl))
  clear h hp hm
  go_enter Tryz.func41, Tryz.ntmps41
  iterate 10 go_step
  rw [HM.out]
  go_wp2_with fail
  go_end0
  exact ⟨rfl, HH.out.1, HH.out.2⟩
set_option maxHeartbeats 1000000 in
theorem On_any {w0 w : World} {bd bp gh : Nat} {d : DskS} (h : DAt w0 w bd bp gh d) :
    Calls Tryz.prog 42 #[.pointer (some ⟨bp, 0, none⟩)] w fun e w' => e = .returned (.tuple #[]) ∧ DAt w0 w' bd bp gh { d with gone := false, fuse := -1 } ∧ K w0 [] w w' := by
  obtain ⟨acts, hp, ha⟩ := h.pow
  have p0 := h.gone_cell
  have p1 := h.fuse_cell
  have f0 := frozen_of_row w bp 0 _ _ hp
  have f1 := frozen_of_row w bp 1 _ _ hp
  have HH := Lib.hid (h.powset false (-1) acts ha (by omega) (gb_two (.bool false) (.int .i64 (-1))) (by rw [heap_setCell_any _ bp 1 _ _ _ _ (heap_setCell_any w bp 0 _ _ _ _ hp)]; rfl))
  clear h hp
  go_enter Tryz.func42, Tryz.ntmps42
  go_wp2_with fail
  go_end0
  exact ⟨rfl, HH.out.1, HH.out.2⟩
theorem Gone_any {w0 w : World} {bd bp gh : Nat} {d : DskS} (h : DAt w0 w bd bp gh d) :
    Calls Tryz.prog 39 #[.pointer (some ⟨bp, 0, none⟩)] w fun e w' => e = .returned (.bool d.gone) ∧ w = w' := by
  have p0 := h.gone_cell
  clear h
  go_enter Tryz.func39, Tryz.ntmps39
  go_wp2_with fail
  go_ret
  exact ⟨rfl, rfl⟩
theorem loseS_yes {im : List UInt8} {wait : List (Nat × List UInt8)} {keep : List Bool} {torn k at_ : Nat} {s : List UInt8} (hk : wait[k]? = some (at_, s)) (hb : keep.getD k false = true) :
    loseS im wait keep torn (k + 1) = (putS (loseS im wait keep torn k).1 at_ s, (loseS im wait keep torn k).2) := by
  rw [loseS, hk]; simp only [hb, if_true]
theorem loseS_no {im : List UInt8} {wait : List (Nat × List UInt8)} {keep : List Bool} {torn k at_ : Nat} {s : List UInt8} (hk : wait[k]? = some (at_, s)) (hb : keep.getD k false = false) :
    loseS im wait keep torn (k + 1) = (putS (loseS im wait keep torn k).1 at_ (s.take (loseS im wait keep torn k).2), 0) := by
  rw [loseS, hk]; simp only [hb]; rfl
set_option maxRecDepth 100000 in
set_option maxHeartbeats 8000000 in
theorem Lose_any {w0 w : World} {bd bp gh : Nat} {d : DskS} (A : Option Addr) (n cap : Nat) (bs : List Bool) (torn : Int) (h : DAt w0 w bd bp gh d) (hB : BoolsAt w0 A n bs) (hq0 : Q w0 w) (hw : d.wait.length ≤ 1000000) :
    Calls Tryz.prog 43 #[.pointer (some ⟨bd, 0, none⟩), .slice A n cap, .int .i64 torn] w fun e w' => e = .returned (.tuple #[]) ∧ DAt w0 w' bd bp gh { d with has := (loseS d.has d.wait bs (min (max torn 0) 64).toNat d.wait.length).1, wait := [] } ∧ K w0 [] w w' := by
  have HD := Lib.hid h
  have HB := Lib.hid hB
  have HQ0 := Lib.hid hq0
  obtain ⟨T, hT⟩ : ∃ T : Nat, (min (max torn 0) 64).toNat = T := ⟨_, rfl⟩
  have hmx : min (max torn 0) 64 = (T : Int) := by omega
  have hT64 : T ≤ 64 := by omega
  rw [hT]
  have HMX := Lib.hid hmx
  have HT := Lib.hid hT64
  have HNB := Lib.hid hB.1
  obtain ⟨wv, life, hb1, hb2⟩ := h.box
  have c2 : w.cell? ⟨bd, 2, none⟩ = some wv := by rw [cell_of_row _ _ _ _ _ _ hb1]; rfl
  obtain ⟨A2, cp, hv, hlc, hat⟩ := hb2.at
  subst hv
  obtain ⟨m, hm⟩ : ∃ m, m = d.wait.length := ⟨_, rfl⟩
  rw [← hm] at c2 hw ⊢
  have HM := Lib.hid hm
  have HC2 := Lib.hid c2
  have hmi : (m : Int) ≤ 1000000 := by omega
  clear h hB hq0 hT hmx hT64 hb1 hb2 hat hm hlc
  go_enter Tryz.func43, Tryz.ntmps43
  iterate 12 go_step
  rw [HMX.out]
  go_wp2_with fail
  clear c2
  go_loopw [2, 16] (fun tv i wr => ∃ k : Nat, k ≤ m ∧ i = .int .i64 (k : Int) ∧ tv = .int .i64 (((loseS d.has d.wait bs T k).2 : Nat) : Int) ∧ Hid (DAt w0 wr bd bp gh { d with has := (loseS d.has d.wait bs T k).1 }) ∧ Hid (wr.cell? ⟨bd, 2, none⟩ = some (.slice A2 m cp)) ∧ Hid (K w0 [] w wr)) (fun _ i _ => m - (intOf i).toNat)
  case atStart => exact ⟨0, by omega, rfl, rfl, HD.out, HC2.out, K.q (Q.refl _)⟩
  case round =>
    clear HC2
    obtain ⟨k, hk, rfl, rfl, HDr, HCr, HKr⟩ := hrel
    by_cases hlt : k < m
    · have g1 : decide (k < m) = true := by simpa using hlt
      have hkl : k < d.wait.length := by rw [← HM.out]; exact hlt
      have hok := HD.out.ok.wait _ (List.getElem_mem hkl)
      obtain ⟨hls, ht64, _⟩ := lose_inv (keep := bs) HD.out.ok.len HD.out.ok.wait HT.out k
      have hls : (loseS d.has d.wait bs T k).1.length = d.has.length := by rw [HD.out.ok.len]; exact hls
      obtain ⟨g, rfl, e0, e1⟩ := HDr.out.late HCr.out k hkl
      have hwk : d.wait[k]? = some d.wait[k] := List.getElem?_eq_getElem hkl
      have hyes := fun hb => loseS_yes (im := d.has) (wait := d.wait) (keep := bs) (torn := T) (k := k) (at_ := d.wait[k].1) (s := d.wait[k].2) hwk hb
      have hno := fun hb => loseS_no (im := d.has) (wait := d.wait) (keep := bs) (torn := T) (k := k) (at_ := d.wait[k].1) (s := d.wait[k].2) hwk hb
      obtain ⟨⟨at_, s⟩, hp⟩ : ∃ p, d.wait[k] = p := ⟨_, rfl⟩
      simp only at e0 e1
      rw [hp] at e0 e1 hok hyes hno
      simp only at e0 e1 hok hyes hno
      obtain ⟨im, him⟩ : ∃ im, (loseS d.has d.wait bs T k).1 = im := ⟨_, rfl⟩
      obtain ⟨t, htt⟩ : ∃ t, (loseS d.has d.wait bs T k).2 = t := ⟨_, rfl⟩
      rw [him] at hls HDr hyes hno
      rw [htt] at ht64 hyes hno ⊢
      have HYES := Lib.hid hyes
      have HNO := Lib.hid hno
      have HOK := Lib.hid hok
      have HLS := Lib.hid hls
      have hs64 : s.length = 64 := hok.2
      have hti : (t : Int) ≤ 64 := by omega
      have hbl : BoolsAt wr A n bs := HB.out.q (HKr.out.toQ HQ0.out (by simp))
      have HBL := Lib.hid hbl
      clear hp hyes hno hok hls hwk hbl him htt
      obtain ⟨hb5, hq5⟩ := LateAt.make wr (at_, s)
      have hbn : (wr.alloc (.cells (lateL (0, [])).toArray 68)).heap[wr.heap.size]? = some (.cells (lateL (0, [])).toArray 68 (0, 0)) := (MapKept.heap_alloc wr _).1
      obtain ⟨N5, hN5⟩ : ∃ G, wr.heap.size = G := ⟨_, rfl⟩
      rw [hN5] at hb5 hq5 hbn
      obtain ⟨W4, hW4⟩ : ∃ W, wr.alloc (.cells (lateL (0, [])).toArray 68) = W := ⟨_, rfl⟩
      rw [hW4] at hb5 hq5 hbn
      have hW4b : wr.alloc (.cells #[.int .i64 0, .string ⟨#[]⟩] 68) = W4 := hW4
      clear hW4
      go_upto_region 4 with (refine wpList_store_row rfl 68 _ _ rfl N5 (lateL (at_, s)).toArray (by rfl) (by rfl) 68 _ hbn infoL rfl (lateL_one _) ?_)
      obtain ⟨W5, hW5⟩ : ∃ W, W4.setRow N5 (lateL (at_, s)).toArray = W := ⟨_, rfl⟩
      rw [hW5] at hb5 hq5 ⊢
      have HD5 := Lib.hid (HDr.out.q hq5)
      have HC5 := Lib.hid (hq5.cell HCr.out)
      have HK5 := Lib.hid (HKr.out.trans (K.q hq5))
      have k0 : ∀ m : QW W5, m.val.cell? ⟨N5, 0, none⟩ = some (.int .i64 (at_ : Int)) := fun m => m.cell hb5.c0
      have k1 : ∀ m : QW W5, m.val.cell? ⟨N5, 1, none⟩ = some (.string ⟨s.toArray⟩) := fun m => m.cell hb5.c1
      have hatn : at_ < DskS.n { d with has := im } := by unfold DskS.n; simp only; rw [HLS.out]; exact HOK.out.1
      have HSC := Lib.hid (fun m : QW W5 => (sector_any at_ (HD5.out.q m.le) hatn : Calls Tryz.prog 29 #[.pointer (some ⟨bd, 0, none⟩), .int .i64 (at_ : Int)] m.val fun e w' => e = .returned (.slice (some ⟨gh, at_ * 64, none⟩) 64 (im.length - at_ * 64)) ∧ m.val = w'))
      have hq5b := hq5
      have HBQ := Lib.hid (HBL.out.q hq5b)
      clear hbn hN5 hW4b hW5 hb5 hq5 hq5b e0 e1 HDr HCr HKr hatn HBL
      by_cases hbn : k < n
      · have g2 : decide (k < n) = true := by simpa using hbn
        obtain ⟨gb, ofb, rfl, hcb⟩ := HBQ.out.at hbn
        cases hbk : bs.getD k false with
        | true =>
          rw [hbk] at hcb
          have HBK := Lib.hid hbk
          clear hbk
          go_upto_region 5 with (fail)
          clear hcb
          refine wp_region_q_tail 6 (by kernel_rfl) (by kernel_rfl) ?_
          simp only [List.take_succ_cons, List.take_zero, List.drop_succ_cons, List.drop_zero, Act.put]
          (repeat (go_big_quiet_step ((go_at_call 29; exact calls_qs (HSC.out _)))))
          refine wpQuiet_nil ?_
          rintro wa ⟨ma, hma⟩
          have hqa : Q W5 wa := by rw [hma]; exact ma.le
          have HD6 := Lib.hid (HD5.out.q hqa)
          have hc6 := hqa.cell HC5.out
          have HK6 := Lib.hid (HK5.out.trans (K.q hqa))
          clear hma ma hqa k0 k1 HSC HD5 HC5 HK5
          have hstl : s.length ≤ 64 := by omega
          have hfit : at_ * 64 + s.length ≤ im.length := by
            rw [HLS.out, HD.out.ok.len]; have := HOK.out.1; omega
          have hfill := HD6.out.fill (putS im at_ s) (putS_len hfit)
          have hcp := cells_put im at_ s hfit
          have hc7 : (wa.setRow gh (arrB (putS im at_ s))).cell? ⟨bd, 2, none⟩ = some (.slice (some ⟨g, 0, none⟩) m cp) := by
            unfold World.cell? at hc6 ⊢
            rw [setRow_other _ _ bd _ HD6.out.ne]; exact hc6
          have HFILL := Lib.hid hfill
          have HC7 := Lib.hid hc7
          clear hfill hc6 hc7
          refine wpList_copy_str rfl (.tmp 34) (.tmp 36) 59 9 5 rfl Tryz.underlying59 (by kernel_rfl) gh (at_ * 64) 64 _ (by rfl) s (by rfl) (arrB im) 5 HD6.out.mem s (List.take_of_length_le hstl) (by simpa [arrB] using hfit) ?_
          rw [hcp]
          clear hcp hfit hstl
          have hst := HYES.out HBK.out
          go_wp2_with fail
          go_roundw
          case rel => exact ⟨k + 1, hlt, by go_num, by first | (rw [hst]; done) | (rw [hst]; rfl), by rw [hst]; exact HFILL.out.1, HC7.out, HK6.out.trans HFILL.out.2⟩
          case measure => simp [intOf]; omega
        | false =>
          rw [hbk] at hcb
          have HBK := Lib.hid hbk
          clear hbk
          go_upto_region 6 with (fail)
          clear hcb
          refine wp_region_q_tail 8 (by kernel_rfl) (by kernel_rfl) ?_
          simp only [List.take_succ_cons, List.take_zero, List.drop_succ_cons, List.drop_zero, Act.put]
          (repeat (go_big_quiet_step ((go_at_call 29; exact calls_qs (HSC.out _)))))
          refine wpQuiet_nil ?_
          rintro wa ⟨ma, hma⟩
          have hqa : Q W5 wa := by rw [hma]; exact ma.le
          have HD6 := Lib.hid (HD5.out.q hqa)
          have hc6 := hqa.cell HC5.out
          have HK6 := Lib.hid (HK5.out.trans (K.q hqa))
          clear hma ma hqa k0 k1 HSC HD5 HC5 HK5
          have hstl : (s.take t).length ≤ 64 := by rw [List.length_take]; omega
          have hfit : at_ * 64 + (s.take t).length ≤ im.length := by
            rw [HLS.out, HD.out.ok.len]; have := HOK.out.1; omega
          have hfill := HD6.out.fill (putS im at_ (s.take t)) (putS_len hfit)
          have hcp := cells_put im at_ (s.take t) hfit
          have hc7 : (wa.setRow gh (arrB (putS im at_ (s.take t)))).cell? ⟨bd, 2, none⟩ = some (.slice (some ⟨g, 0, none⟩) m cp) := by
            unfold World.cell? at hc6 ⊢
            rw [setRow_other _ _ bd _ HD6.out.ne]; exact hc6
          have HFILL := Lib.hid hfill
          have HC7 := Lib.hid hc7
          clear hfill hc6 hc7
          refine wpList_copy_str rfl (.tmp 41) (.tmp 45) 59 9 5 rfl Tryz.underlying59 (by kernel_rfl) gh (at_ * 64) 64 _ (by rfl) (sub s 0 t) (by rfl) (arrB im) 5 HD6.out.mem (s.take t) (by rw [show sub s 0 t = s.take t by unfold sub; rw [List.drop_zero]]; exact List.take_of_length_le hstl) (by simpa [arrB] using hfit) ?_
          rw [hcp]
          clear hcp hfit hstl
          have hst := HNO.out HBK.out
          go_wp2_with fail
          go_roundw
          case rel => exact ⟨k + 1, hlt, by go_num, by first | (rw [hst]; done) | (rw [hst]; rfl), by rw [hst]; exact HFILL.out.1, HC7.out, HK6.out.trans HFILL.out.2⟩
          case measure => simp [intOf]; omega
      · have g2 : decide (k < n) = false := by simpa using hbn
        have hbk : bs.getD k false = false := by
          have := HNB.out
          simp [List.getD, List.getElem?_eq_none (show bs.length ≤ k by omega)]
        have HBK := Lib.hid hbk
        clear hbk
        go_upto_region 6 with (fail)
        refine wp_region_q_tail 8 (by kernel_rfl) (by kernel_rfl) ?_
        simp only [List.take_succ_cons, List.take_zero, List.drop_succ_cons, List.drop_zero, Act.put]
        (repeat (go_big_quiet_step ((go_at_call 29; exact calls_qs (HSC.out _)))))
        refine wpQuiet_nil ?_
        rintro wa ⟨ma, hma⟩
        have hqa : Q W5 wa := by rw [hma]; exact ma.le
        have HD6 := Lib.hid (HD5.out.q hqa)
        have hc6 := hqa.cell HC5.out
        have HK6 := Lib.hid (HK5.out.trans (K.q hqa))
        clear hma ma hqa k0 k1 HSC HD5 HC5 HK5
        have hstl : (s.take t).length ≤ 64 := by rw [List.length_take]; omega
        have hfit : at_ * 64 + (s.take t).length ≤ im.length := by
          rw [HLS.out, HD.out.ok.len]; have := HOK.out.1; omega
        have hfill := HD6.out.fill (putS im at_ (s.take t)) (putS_len hfit)
        have hcp := cells_put im at_ (s.take t) hfit
        have hc7 : (wa.setRow gh (arrB (putS im at_ (s.take t)))).cell? ⟨bd, 2, none⟩ = some (.slice (some ⟨g, 0, none⟩) m cp) := by
          unfold World.cell? at hc6 ⊢
          rw [setRow_other _ _ bd _ HD6.out.ne]; exact hc6
        have HFILL := Lib.hid hfill
        have HC7 := Lib.hid hc7
        clear hfill hc6 hc7
        refine wpList_copy_str rfl (.tmp 41) (.tmp 45) 59 9 5 rfl Tryz.underlying59 (by kernel_rfl) gh (at_ * 64) 64 _ (by rfl) (sub s 0 t) (by rfl) (arrB im) 5 HD6.out.mem (s.take t) (by rw [show sub s 0 t = s.take t by unfold sub; rw [List.drop_zero]]; exact List.take_of_length_le hstl) (by simpa [arrB] using hfit) ?_
        rw [hcp]
        clear hcp hfit hstl
        have hst := HNO.out HBK.out
        go_wp2_with fail
        go_roundw
        case rel => exact ⟨k + 1, hlt, by go_num, by first | (rw [hst]; done) | (rw [hst]; rfl), by rw [hst]; exact HFILL.out.1, HC7.out, HK6.out.trans HFILL.out.2⟩
        case measure => simp [intOf]; omega
    · have g1 : decide (k < m) = false := by simpa using hlt
      obtain rfl : k = m := by omega
      have hfin := HDr.out.put HCr.out (w' := wr) (by
        exact (Q.refl wr).gb _) (OwnW.nil w0 wr) (by intro p hp; cases hp)
      have HFIN := Lib.hid hfin
      have c2 := HCr.out
      have f2 : wr.frozen? ⟨bd, 2, none⟩ = false := by
        obtain ⟨wv, life, h1, _⟩ := HDr.out.box
        exact frozen_of_row wr bd 2 _ _ h1
      clear hfin hlt
      go_wp2_with fail
      go_end0
      exact ⟨rfl, HFIN.out.1, HKr.out.trans HFIN.out.2⟩
end Go.Proofs.YtcbepjepcabllaaGreatDoor
/- Plain laws: what a crash in Append or Reset leaves of a journal. -/
set_option linter.unusedVariables false
set_option linter.unusedSimpArgs false
namespace Go.Proofs.YtcbepjepcabllaaGreatDoor
open Go Go.RowKit
/-- A half, from sector k on. -/
theorem half_split (j : JrnS) (sec : Bool) (d : DskS) (n k : Nat) (hk : k ≤ n) : ∃ R, halfL j sec d n = halfL j sec d k ++ R ∧ (k < n → ∃ R', R = readL d (atJ j sec k) ++ R') ∧ (k = n → R = []) := by
  refine ⟨(List.range' k (n - k)).flatMap fun i => readL d (atJ j sec i), ?_, fun h => ?_, fun h => ?_⟩
  · unfold halfL
    rw [← List.flatMap_append]
    congr 1
    rw [List.range_eq_range', List.range_eq_range', show n = k + (n - k) by omega, ← List.range'_append_1, Nat.zero_add, show k + (n - k) - k = n - k by omega]
  · obtain ⟨m, hm⟩ : ∃ m, n - k = m + 1 := ⟨n - k - 1, by omega⟩
    rw [hm, List.range'_succ, List.flatMap_cons]
    exact ⟨_, rfl⟩
  · rw [h, Nat.sub_self]; rfl
theorem at_inj {j : JrnS} {sec : Bool} {a b : Nat} (h : atJ j sec a = atJ j sec b) : a = b := by unfold atJ at h; omega
theorem at_ne {j : JrnS} {sec : Bool} {a b : Nat} (ha : a < j.half) (hb : b < j.half) : atJ j sec a ≠ atJ j (!sec) b := by unfold atJ; cases sec <;> simp <;> omega
def headNot1 (x : List UInt8) : Prop := ∀ c r, x = c :: r → c ≠ 1
/-- A prefix of a sector over what was there: its first byte is one of the two. -/
theorem head_mix {s x : List UInt8} (h0 : s ≠ []) (hs : headNot1 s) (hx : headNot1 x) (t : Nat) : headNot1 (s.take t ++ x.drop t) := by
  intro c r e
  cases t with
  | zero => rw [List.take_zero, List.nil_append, List.drop_zero] at e; exact hx c r e
  | succ t =>
    cases s with
    | nil => exact absurd rfl h0
    | cons a b => rw [List.take_succ_cons, List.cons_append] at e; injection e with e _; exact e ▸ hs a b rfl
theorem headNot1_app {x R : List UInt8} (h : headNot1 x) (h0 : x ≠ []) : headNot1 (x ++ R) := by
  intro c r e
  cases x with
  | nil => exact absurd rfl h0
  | cons a b => rw [List.cons_append] at e; injection e with e _; exact e ▸ h a b rfl
theorem headNot1_of_app {x R : List UInt8} (h : headNot1 (x ++ R)) : headNot1 x := by
  intro c r e
  subst e
  exact h c (r ++ R) rfl
theorem unmark_head (s : List UInt8) : headNot1 (unmarkL s) := by
  intro c r e
  unfold unmarkL at e
  injection e with e _
  rw [← e]; decide
/-- The same sectors: the same journal. -/
theorem JInv.same {j : JrnS} {d d' : DskS} {recs : List (List UInt8)} (h : JInv j d recs) (hl : Live d') (hw : d'.wait = []) (hn : d'.n = d.n) (hr : ∀ q, q < d.n → readL d' q = readL d q) : JInv j d' recs :=
  h.out (f := j.first + 2 * j.half) (half := 0) hl hw ⟨hn, fun i _ hi => hr i hi⟩ (.inl (Nat.le_refl _))
/-- What stands behind a half's records, ahead of a change. -/
theorem JInv.rest {j : JrnS} {d : DskS} {recs : List (List UInt8)} (h : JInv j d recs) : halfL j j.second d j.next = headL j.epoch ++ (packsL j.epoch 0 recs).flatten ∧ (j.next < j.half → headNot1 (readL d (atJ j j.second j.next))) := by
  obtain ⟨rest, e1, e2, e3, e4⟩ := h.half
  have hn := h.next
  have hA : (headL j.epoch ++ (packsL j.epoch 0 recs).flatten).length = 64 * j.next := by
    rw [List.length_append, headL_len, packs_flat_len]; omega
  have hnx := h.ok.next.2
  obtain ⟨R, r1, r2, _⟩ := half_split j j.second d j.half j.next hnx
  have hl := halfL_len (sec := j.second) h.live.ok h.fits j.next hnx
  rw [e1] at r1
  obtain ⟨a1, a2⟩ := List.append_inj r1 (by rw [hA, hl])
  refine ⟨a1.symm, fun hx => ?_⟩
  obtain ⟨R', hR⟩ := r2 hx
  refine headNot1_of_app (R := R') ?_
  rw [← hR, ← a2]
  exact e4
/-- Records as they were, and behind them nothing that begins as one. -/
theorem JInv.keep {j : JrnS} {d d' : DskS} {recs : List (List UInt8)} (h : JInv j d recs) (hl : Live d') (hw : d'.wait = []) (hn : d'.n = d.n) (hr : ∀ q, q < d.n → (∀ i, j.next ≤ i → i < j.half → q ≠ atJ j j.second i) → readL d' q = readL d q)
    (hh : j.next < j.half → headNot1 (readL d' (atJ j j.second j.next))) : JInv j d' recs := by
  have hnx := h.ok.next.2
  have hf := h.fits
  have hat : ∀ s i, i < j.half → atJ j s i < d.n := fun s i hi => at_lt hf hi
  have e1 : halfL j j.second d' j.next = halfL j j.second d j.next := half_congr _ fun i hi => hr _ (hat _ i (by omega)) fun k hk _ e => by have := at_inj e; omega
  have e2 : halfL j (!j.second) d' j.half = halfL j (!j.second) d j.half := half_congr _ fun i hi => hr _ (hat _ i hi) fun k _ hk2 e => at_ne hk2 hi e.symm
  refine ⟨hl, hw, h.ok, by rw [hn]; exact hf, h.closed, h.many, h.next, ?_, by rw [e2]; exact h.other, h.small⟩
  obtain ⟨R, r1, r2, r3⟩ := half_split j j.second d' j.half j.next hnx
  obtain ⟨_, _, _, e3, _⟩ := h.half
  refine ⟨R, by rw [r1, e1, h.rest.1], halfL_len hl.ok (by rw [hn]; exact hf) _ (Nat.le_refl _), e3, ?_⟩
  rcases Nat.lt_or_ge j.next j.half with hx | hx
  · obtain ⟨R', hR⟩ := r2 hx
    rw [hR]
    refine headNot1_app (hh hx) fun e => ?_
    have := readL_len hl.ok (k := atJ j j.second j.next) (by rw [hn]; exact hat _ _ hx)
    rw [e] at this; cases this
  · rw [r3 (by omega)]
    intro c r e; cases e
theorem lay_two (j : JrnS) (sec : Bool) (k m : Nat) (s : List UInt8) : layJ j sec k m s = twoP (fun d => bindE (wrJ j sec m k (unmarkL s) d) (cleanJ j sec (k + m))) (wrJ j sec 1 k (sub s 0 64)) := by
  funext d
  unfold layJ twoP
  rw [bindE_assoc, bindE_assoc]
/-- Behind the first flush of lay. -/
theorem lay1_eff {j : JrnS} {sec : Bool} {d : DskS} (h : Live d) (hp : j.first + 2 * j.half ≤ d.n) {k m : Nat} (hm : 1 ≤ m) (hk : k + m ≤ j.half) {s A B C : List UInt8} (hs : s.length = 64 * m) (hh : halfL j sec d j.half = A ++ B ++ C) (ha : A.length = 64 * k) (hb : B.length = 64 * m) :
    Eff j sec d (bindE (bindE (wrJ j sec m k (unmarkL s) d) (cleanJ j sec (k + m))) flushR) (A ++ unmarkL s ++ tailC (k + m) j.half C) ∧ (bindE (bindE (wrJ j sec m k (unmarkL s) d) (cleanJ j sec (k + m))) flushR).1.wait = [] := by
  have h0 : 0 < d.n := by omega
  have hl := halfL_len (sec := sec) h.ok hp j.half (Nat.le_refl _)
  have hcl : C.length + 64 * (k + m) = 64 * j.half := by
    rw [hh, List.length_append, List.length_append] at hl; omega
  have hul : (unmarkL s).length = 64 * m := by rw [unmarkL_len (by omega)]; exact hs
  have e1 := wr_eff m h hp hk hul hh ha hb
  have hfl : (A ++ unmarkL s).length = 64 * (k + m) := by rw [List.length_append]; omega
  have e2 := clean_eff e1.live (by rw [e1.n]; exact hp) (k := k + m) (A := A ++ unmarkL s) (B := C.take 64) (C := C.drop 64) (by rw [e1.half, List.append_assoc _ (C.take 64), List.take_append_drop]) hfl (fun hx => by rw [List.length_take]; omega)
  have e3 : (if k + m < j.half then A ++ unmarkL s ++ blankL ++ C.drop 64 else A ++ unmarkL s ++ C.take 64 ++ C.drop 64) = A ++ unmarkL s ++ tailC (k + m) j.half C := by
    unfold tailC
    split
    · simp
    · rw [List.append_assoc _ (C.take 64), List.take_append_drop]
  have e2 := e2.re e3
  have e4 := e1.bind (f := cleanJ j sec (k + m)) e2
  have hn4 := e4.n
  obtain ⟨e5, e6⟩ := flush_eff (j := j) (sec := sec) e4.live (by rw [hn4]; exact hp) (by rw [hn4]; exact h0)
  refine ⟨(e4.bind (f := flushR) e5).re e4.half, ?_⟩
  rw [bindE_ok e4.ok]
  exact e6
/-- One sector written over what differs from it in the first byte alone: it is there or not. -/
theorem mix_two {s x : List UInt8} {b : UInt8} (hx : x = b :: s.drop 1) (y : List UInt8) (hy : y = x ∨ y = s) (h0 : s ≠ []) (t : Nat) : (s.take t ++ y.drop t) = x ∨ (s.take t ++ y.drop t) = s := by
  cases t with
  | zero => rw [List.take_zero, List.nil_append, List.drop_zero]; exact hy
  | succ t =>
    right
    rcases hy with rfl | rfl
    · rw [hx, List.drop_succ_cons, List.drop_drop, Nat.add_comm 1 t, List.take_append_drop]
    · exact List.take_append_drop _ _
theorem sub_unmark {s : List UInt8} (h : 64 ≤ s.length) : sub (unmarkL s) 0 64 = 0 :: (sub s 0 64).drop 1 := by
  unfold unmarkL sub
  rw [List.take_length]
  cases s with
  | nil => simp at h
  | cons a r => simp [List.take_succ_cons]
/-- The sectors behind two writes and their flushes, the second one of a single sector. -/
theorem two_reads {j : JrnS} {sec : Bool} {d3 : DskS} (h : Live d3) {k : Nat} (hk : atJ j sec k < d3.n) {s0 : List UInt8} (hs : s0.length = 64) :
    (bindE (wrJ j sec 1 k s0 d3) flushR).1.n = d3.n ∧ ∀ q, q < d3.n → readL (bindE (wrJ j sec 1 k s0 d3) flushR).1 q = if q = atJ j sec k then s0 else readL d3 q := by
  have e0 : sub s0 0 64 = s0 := by unfold sub; rw [List.drop_zero, List.take_of_length_le (by omega)]
  have e1 : wrJ j sec 1 k s0 d3 = (writeD d3 (atJ j sec k : Int) s0, 0) := by
    unfold wrJ
    rw [e0, writeC_live h hk hs, if_pos rfl]
    rfl
  obtain ⟨h1, h2, h3⟩ := live_write h hk hs
  obtain ⟨_, _, f3, _, f5⟩ := live_flush h1 (by rw [h2]; omega)
  rw [bindE_ok (r := wrJ j sec 1 k s0 d3) (by rw [e1]), e1]
  exact ⟨f3.trans h2, fun q hq => (f5 q (by rw [h2]; exact hq)).trans (h3 q)⟩
/-- A crash behind the first flush: the sector is as it was, or written. -/
theorem crash_two {j : JrnS} {sec : Bool} {d3 d : DskS} {k : Nat} {s0 : List UInt8} {b : UInt8} (hR : RA (wrA j sec 1 k s0) d3 (lvD d)) (h0 : d3.wait = []) (hok : d.Ok) (keep : List Bool) {torn : Nat} (ht : torn ≤ 64) (hk : atJ j sec k < d.n) (hs : s0.length = 64)
    (hu : readL d3 (atJ j sec k) = b :: s0.drop 1) : (∀ q, q < d.n → readL (crashD d keep torn) q = readL d3 q) ∨ (∀ q, q < d.n → readL (crashD d keep torn) q = if q = atJ j sec k then s0 else readL d3 q) := by
  have e0 : sub s0 0 64 = s0 := by unfold sub; rw [List.drop_zero, List.take_of_length_le (by omega)]
  have hsn : s0 ≠ [] := fun e => by rw [e] at hs; cases hs
  have other : ∀ q, q < d.n → q ≠ atJ j sec k → readL (crashD d keep torn) q = readL d3 q := fun q hq hne =>
    crash_read hR h0 hok keep ht hq (fun x => x = readL d3 q) rfl fun x _ _ p hp hpq => by
      obtain ⟨i, hi, e1, _⟩ := hp
      obtain rfl : i = 0 := by omega
      exact absurd (hpq.symm.trans e1) hne
  have this : readL (crashD d keep torn) (atJ j sec k) = b :: s0.drop 1 ∨ readL (crashD d keep torn) (atJ j sec k) = s0 :=
    crash_read hR h0 hok keep ht hk (fun x => x = b :: s0.drop 1 ∨ x = s0) (.inl hu) fun x hx _ p hp hpq t _ => by
      obtain ⟨i, hi, _, e2⟩ := hp
      obtain rfl : i = 0 := by omega
      have e3 : p.2 = s0 := by rw [e2]; exact e0
      rw [e3]
      exact mix_two rfl x hx hsn t
  rcases this with h | h
  · exact .inl fun q hq => by
      by_cases e : q = atJ j sec k
      · rw [e, h, hu]
      · exact other q hq e
  · exact .inr fun q hq => by
      by_cases e : q = atJ j sec k
      · rw [if_pos e, e, h]
      · rw [if_neg e]; exact other q hq e
end Go.Proofs.YtcbepjepcabllaaGreatDoor
/- Plain laws: Append, Reset and a crash. -/
set_option linter.unusedVariables false
set_option linter.unusedSimpArgs false
namespace Go.Proofs.YtcbepjepcabllaaGreatDoor
open Go Go.RowKit
theorem lvD_live {d : DskS} (h : Live d) (hf : d.fuse = -1) : lvD d = d := by
  unfold lvD
  rw [← h.gone, ← hf]
theorem half_same {j : JrnS} {sec : Bool} {d d' : DskS} {k : Nat} (h : ∀ i, i < k → (readL d (atJ j sec i)).length = 64) (h' : ∀ i, i < k → (readL d' (atJ j sec i)).length = 64) (he : halfL j sec d k = halfL j sec d' k) : ∀ i, i < k → readL d (atJ j sec i) = readL d' (atJ j sec i) := by
  induction k with
  | zero => intro i hi; omega
  | succ k ih =>
    rw [halfL_succ, halfL_succ] at he
    have hL : ∀ e : DskS, (∀ i, i < k + 1 → (readL e (atJ j sec i)).length = 64) → ∀ n, n ≤ k → (halfL j sec e n).length = 64 * n := by
      intro e hq n
      induction n with
      | zero => intro _; rfl
      | succ n ih2 => intro hn; rw [halfL_succ, List.length_append, ih2 (by omega), hq n (by omega)]; omega
    obtain ⟨h1, h2⟩ := List.append_inj he (by rw [hL d h k (Nat.le_refl _), hL d' h' k (Nat.le_refl _)])
    intro i hi
    by_cases e : i = k
    · rw [e]; exact h2
    · exact ih (fun i hi => h i (by omega)) (fun i hi => h' i (by omega)) h1 i (by omega)
theorem append_crash {j : JrnS} {d : DskS} {recs : List (List UInt8)} (hd : OnD d) (hi : JInv j (lvD d) recs) (p : List UInt8) (hp : p.length ≤ 60000) (hfit : j.next + wantN p ≤ j.half) :
    ((appendD j p d).2 = 0 ∧ OnD (appendD j p d).1 ∧ JInv (appendJ j p) (lvD (appendD j p d).1) (recs ++ [p])) ∨
    ((appendD j p d).2 = 10 ∧ (appendD j p d).1.gone = true ∧ (appendD j p d).1.Ok ∧ (appendD j p d).1.n = d.n ∧ ∀ keep torn, torn ≤ 64 → JInv j (crashD (appendD j p d).1 keep torn) recs ∨ JInv (appendJ j p) (crashD (appendD j p d).1 keep torn) (recs ++ [p])) := by
  obtain ⟨h1, h2, h3, _⟩ := hi.append p hp hfit
  have hD : ∀ d, appendD j p d = layJ j j.second j.next (wantN p) (recL j p) d := fun d => by unfold appendD; rw [if_pos h1]
  have hm := wantN_pos p
  have hsl := recL_len j p
  have hfits := hi.fits
  have hhalf := hi.ok.half
  obtain ⟨s, hs⟩ : ∃ s, recL j p = s := ⟨_, rfl⟩
  rw [hs] at hD hsl
  rw [hD] at h2 h3
  rw [hD]
  obtain ⟨m, hmm⟩ : ∃ m, wantN p = m := ⟨_, rfl⟩
  rw [hmm] at hD hm hfit hsl h2 h3 ⊢
  rw [lay_two] at h2 h3 ⊢
  have hul : (unmarkL s).length = 64 * m := by rw [unmarkL_len (by omega)]; exact hsl
  have hs0 : (sub s 0 64).length = 64 := by rw [length_sub]; omega
  have hn : d.n = (lvD d).n := rfl
  have a1 := ((AddP.wr (n := (lvD d).n) (sec := j.second) hfits m j.next (unmarkL s) hfit hul).mono (B := fun p => wrA j j.second m j.next (unmarkL s) p ∨ clA j j.second (j.next + m) p) (fun _ h => .inl h)).bind
    ((AddP.clean (n := (lvD d).n) (sec := j.second) hfits (j.next + m)).mono (fun _ h => .inr h))
  have a2 := AddP.wr (n := (lvD d).n) (sec := j.second) hfits 1 j.next (sub s 0 64) (by omega) hs0
  have hsim := two_sim a1 a2 hd hn (by omega)
  obtain ⟨r, hr⟩ : ∃ r, twoP (fun d => bindE (wrJ j j.second m j.next (unmarkL s) d) (cleanJ j j.second (j.next + m))) (wrJ j j.second 1 j.next (sub s 0 64)) d = r := ⟨_, rfl⟩
  unfold Sim at hsim
  rw [hr] at hsim ⊢
  rcases hsim with ⟨b1, b2, b3⟩ | ⟨b1, b2, b3, b4, b5⟩
  · exact .inl ⟨b1, b2, by rw [b3]; exact h3⟩
  refine .inr ⟨b1, b2, b4, ?_⟩
  have hw0 : (lvD d).wait = [] := hi.wait
  -- behind the first flush
  obtain ⟨hpre, hrest⟩ := hi.rest
  obtain ⟨R, r1, _, _⟩ := half_split j j.second (lvD d) j.half j.next (by omega)
  have hl := halfL_len (sec := j.second) hi.live.ok hfits j.half (Nat.le_refl _)
  have hlk := halfL_len (sec := j.second) hi.live.ok hfits j.next (by omega)
  have hRl : R.length = 64 * j.half - 64 * j.next := by rw [r1, List.length_append] at hl; omega
  obtain ⟨e1, e2⟩ := lay1_eff (j := j) (sec := j.second) hi.live hfits hm hfit hsl (A := halfL j j.second (lvD d) j.next) (B := R.take (64 * m)) (C := R.drop (64 * m)) (by rw [List.append_assoc, List.take_append_drop]; exact r1) hlk (by rw [List.length_take]; omega)
  obtain ⟨d3, hd3⟩ : ∃ d3, (bindE (bindE (wrJ j j.second m j.next (unmarkL s) (lvD d)) (cleanJ j j.second (j.next + m))) flushR).1 = d3 := ⟨_, rfl⟩
  have e0 : (bindE (bindE (wrJ j j.second m j.next (unmarkL s) (lvD d)) (cleanJ j j.second (j.next + m))) flushR) = (d3, 0) := Prod.ext hd3 e1.ok
  rw [e0] at e1 e2
  have hn3 : d3.n = (lvD d).n := e1.n
  have b5 : RA (fun p => wrA j j.second m j.next (unmarkL s) p ∨ clA j j.second (j.next + m) p) (lvD d) (lvD r.1) ∨ RA (wrA j j.second 1 j.next (sub s 0 64)) d3 (lvD r.1) := by
    rcases b5 with h | h
    · exact .inl h
    · rw [hd3] at h; exact .inr h
  rcases b5 with hR | hR
  · -- ahead of it
    have hnr : r.1.n = (lvD d).n := hR.n
    refine ⟨hnr, fun keep torn ht => .inl ?_⟩
    obtain ⟨c1, c2, c3⟩ := crash_live b4 b3 keep ht
    refine hi.keep c1 c3 (c2.trans hnr) (fun q hq hne => ?_) fun hx => ?_
    · refine crash_read hR hw0 b4 keep ht (by rw [hnr]; exact hq) (fun x => x = readL (lvD d) q) rfl fun x _ _ p hp hpq t _ => ?_
      rcases hp with ⟨i, hi2, e, _⟩ | ⟨hx, e⟩
      · exact absurd (hpq.symm.trans e) (hne _ (by omega) (by omega))
      · rw [e] at hpq; exact absurd hpq.symm (hne _ (by omega) hx)
    · refine crash_read hR hw0 b4 keep ht (by rw [hnr]; exact at_lt hfits hx) headNot1 (hrest hx) fun x hx1 _ p hp hpq t _ => ?_
      rcases hp with ⟨i, hi2, e, e2⟩ | ⟨_, e⟩
      · have hi0 : i = 0 := by have := at_inj (hpq.symm.trans e); omega
        subst hi0
        rw [e2]
        refine head_mix (fun e => ?_) ?_ hx1 t
        · have : (sub (unmarkL s) 0 64).length = 64 := by rw [length_sub]; omega
          rw [show 64 * 0 = 0 from rfl, show 0 + 64 = 64 from rfl] at e
          rw [e] at this; cases this
        · rw [show 64 * 0 = 0 from rfl, show 0 + 64 = 64 from rfl, sub_unmark (by omega)]
          intro c r e; injection e with e _; rw [← e]; decide
      · rw [e] at hpq
        have := at_inj hpq; omega
  · have hnr : r.1.n = d3.n := hR.n
    refine ⟨hnr.trans hn3, fun keep torn ht => ?_⟩
    obtain ⟨c1, c2, c3⟩ := crash_live b4 b3 keep ht
    have hat3 : atJ j j.second j.next < d3.n := by rw [hn3]; exact at_lt hfits (by omega)
    have hu : readL d3 (atJ j j.second j.next) = 0 :: (sub s 0 64).drop 1 := by
      obtain ⟨R3, q1, q2, _⟩ := half_split j j.second d3 j.half j.next (by omega)
      obtain ⟨R4, q4⟩ := q2 (by omega)
      have hl3 := halfL_len (sec := j.second) e1.live.ok (by rw [hn3]; exact hfits) j.next (by omega)
      have hh := e1.half
      rw [q1, q4, List.append_assoc] at hh
      obtain ⟨_, hh2⟩ := List.append_inj hh (hl3.trans hlk.symm)
      have hl4 := readL_len e1.live.ok hat3
      have hse : unmarkL s = sub (unmarkL s) 0 64 ++ (unmarkL s).drop 64 := by unfold sub; rw [List.drop_zero, List.take_append_drop]
      rw [hse, List.append_assoc] at hh2
      obtain ⟨hh3, _⟩ := List.append_inj hh2 (by rw [hl4, length_sub]; omega)
      rw [hh3, sub_unmark (by omega)]
    have h3i : JInv j d3 recs := by
      refine hi.keep e1.live e2 hn3 (fun q hq hne => ?_) fun hx => by rw [hu]; intro c r e; injection e with e _; rw [← e]; decide
      by_cases hin : atJ j j.second 0 ≤ q ∧ q < atJ j j.second 0 + j.half
      · have hqe : q = atJ j j.second (q - atJ j j.second 0) := by unfold atJ at *; omega
        have hqk : q - atJ j j.second 0 < j.next := by
          rcases Nat.lt_or_ge (q - atJ j j.second 0) j.next with h | h
          · exact h
          · exact absurd hqe (hne _ h (by omega))
        -- a sector ahead of the record
        have hh := e1.half
        obtain ⟨R3, q1, _, _⟩ := half_split j j.second d3 j.half j.next (by omega)
        have hl3 := halfL_len (sec := j.second) e1.live.ok (by rw [hn3]; exact hfits) j.next (by omega)
        rw [q1, List.append_assoc] at hh
        obtain ⟨hh1, _⟩ := List.append_inj hh (hl3.trans hlk.symm)
        have := half_same (fun i hi => readL_len e1.live.ok (by rw [hn3]; exact at_lt hfits (by omega : i < j.half))) (fun i hx => readL_len hi.live.ok (at_lt hfits (by omega : i < j.half))) hh1 _ hqk
        rw [← hqe] at this
        exact this
      · exact e1.out q hin hq
    rcases crash_two hR e2 b4 keep ht (by rw [hnr]; exact hat3) hs0 hu with h | h
    · exact .inl (h3i.same c1 c3 (c2.trans hnr) fun q hq => h q (by rw [hnr]; exact hq))
    · have hf : twoP (fun d => bindE (wrJ j j.second m j.next (unmarkL s) d) (cleanJ j j.second (j.next + m))) (wrJ j j.second 1 j.next (sub s 0 64)) (lvD d) = bindE (wrJ j j.second 1 j.next (sub s 0 64) d3) flushR := by
        unfold twoP
        rw [e0, bindE_ok rfl]
      have hl3 : Live d3 := e1.live
      obtain ⟨t1, t2⟩ := two_reads hl3 hat3 hs0
      rw [hf] at h3
      refine .inr (h3.same c1 c3 ((c2.trans hnr).trans t1.symm) fun q hq => ?_)
      rw [t1] at hq
      rw [h q (by rw [hnr]; exact hq), t2 q hq]
end Go.Proofs.YtcbepjepcabllaaGreatDoor
