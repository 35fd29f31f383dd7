/- Texts of this proof, laid into one: JrA, Ints, JoE, JrB, JrC, JsH, JsI, JsJ. -/
import Derived.Test.YtcbepjepcabllaaGreatDoorMk12
import Derived.ChangeSlices
/- JournalPlays, plain: what lies outside the journal's sectors stays; steps without regard to what the sectors hold. -/
set_option linter.unusedVariables false
set_option linter.unusedSimpArgs false
namespace Go.Proofs.YtcbepjepcabllaaGreatDoor
open Go Go.RowKit
/-- Outside the sectors f .. f + 2 half all is m; pending writes lie inside. -/
structure OutD (f half : Nat) (m : List UInt8) (d : DskS) : Prop where
  ok : d.Ok
  has : ∀ i, ¬ (f ≤ i ∧ i < f + 2 * half) → i < d.n → sub d.has (i * 64) (i * 64 + 64) = m
  wait : ∀ p ∈ d.wait, f ≤ p.1 ∧ p.1 < f + 2 * half
theorem OutD.same {f half : Nat} {m : List UInt8} {d d' : DskS} (h : OutD f half m d) (hk : d'.Ok) (hh : d'.has = d.has) (hw : d'.wait = d.wait) : OutD f half m d' := by
  have hn : d'.n = d.n := by unfold DskS.n; rw [hh]
  exact ⟨hk, fun i h1 h2 => by rw [hh]; exact h.has i h1 (by omega), fun p hp => h.wait p (hw ▸ hp)⟩
theorem act_ok {d : DskS} (h : d.Ok) : (actD d).Ok ∧ (actD d).n = d.n := by
  obtain ⟨h1, h2, h3⟩ := actD_same d
  have hn : (actD d).n = d.n := by unfold DskS.n; rw [h1]
  refine ⟨⟨by rw [h1, hn]; exact h.len, by rw [hn]; exact h.most, ?_, fun p hp => by rw [hn]; exact h.wait p (h2 ▸ hp)⟩, hn⟩
  have hf := h.fuse
  unfold actD
  split
  · exact hf
  · split
    · dsimp only; omega
    · exact hf
/-- A step that leaves what lies outside. -/
def OpO (f half : Nat) (op : DskS → DskS × Int) : Prop := ∀ (d : DskS) (m : List UInt8), OutD f half m d → f + 2 * half ≤ d.n → OutD f half m (op d).1 ∧ (op d).1.n = d.n ∧ (op d).1.dead = d.dead
theorem OpO.nil (f half : Nat) : OpO f half (fun d => (d, 0)) := fun d m h hn => ⟨h, rfl, rfl⟩
theorem OpO.bind {f half : Nat} {o1 o2 : DskS → DskS × Int} (h1 : OpO f half o1) (h2 : OpO f half o2) : OpO f half (fun d => bindE (o1 d) o2) := fun d m h hn => by
  obtain ⟨a1, a2, a3⟩ := h1 d m h hn
  show OutD f half m (bindE (o1 d) o2).1 ∧ (bindE (o1 d) o2).1.n = d.n ∧ (bindE (o1 d) o2).1.dead = d.dead
  by_cases h3 : (o1 d).2 = 0
  · rw [bindE_ok h3]
    obtain ⟨b1, b2, b3⟩ := h2 (o1 d).1 m a1 (by omega)
    exact ⟨b1, b2.trans a2, b3.trans a3⟩
  · rw [bindE_no h3]; exact ⟨a1, a2, a3⟩
theorem OpO.write {f half k : Nat} (h1 : f ≤ k) (h2 : k < f + 2 * half) (s : List UInt8) : OpO f half (fun d => (writeD d (k : Int) s, writeC d (k : Int) s)) := fun d m h hn => by
  obtain ⟨e1, e2, e3⟩ := actD_same d
  obtain ⟨a1, a2⟩ := act_ok h.ok
  show OutD f half m (writeD d (k : Int) s) ∧ (writeD d (k : Int) s).n = d.n ∧ (writeD d (k : Int) s).dead = d.dead
  unfold writeD
  split
  · exact ⟨h, rfl, rfl⟩
  · next hc =>
    have hr : readyC d (k : Int) = 0 := by
      by_cases hr : readyC d (k : Int) = 0
      · exact hr
      · exact absurd (.inl hr) hc
    have hs : s.length = 64 := by
      by_cases hs : s.length = 64
      · exact hs
      · exact absurd (.inr hs) hc
    split
    · exact ⟨h.same a1 e1 e2, a2, e3⟩
    · have hlt := ready_lt hr
      have hwn : ∀ p ∈ d.wait ++ [((k : Int).toNat, s)], p.1 < d.n ∧ p.2.length = 64 := fun p hp => by
        rw [List.mem_append, List.mem_singleton] at hp
        rcases hp with hp | hp
        · exact h.ok.wait p hp
        · subst hp; exact ⟨by show (k : Int).toNat < d.n; omega, hs⟩
      have hn2 : DskS.n { actD d with wait := d.wait ++ [((k : Int).toNat, s)] } = d.n := a2
      refine ⟨⟨⟨a1.len, a1.most, a1.fuse, fun p hp => by rw [hn2]; exact hwn p hp⟩, fun i h3 h4 => ?_, fun p hp => ?_⟩, a2, e3⟩
      · show sub (actD d).has (i * 64) (i * 64 + 64) = m
        rw [e1]; exact h.has i h3 (by rw [← hn2]; exact h4)
      · have hp : p ∈ d.wait ++ [((k : Int).toNat, s)] := hp
        rw [List.mem_append, List.mem_singleton] at hp
        rcases hp with hp | hp
        · exact h.wait p hp
        · subst hp; show f ≤ (k : Int).toNat ∧ (k : Int).toNat < f + 2 * half; omega
theorem OpO.flush (f half : Nat) : OpO f half flushR := fun d m h hn => by
  obtain ⟨e1, e2, e3⟩ := actD_same d
  obtain ⟨a1, a2⟩ := act_ok h.ok
  show OutD f half m (flushD d) ∧ (flushD d).n = d.n ∧ (flushD d).dead = d.dead
  unfold flushD
  split
  · exact ⟨h, rfl, rfl⟩
  · split
    · exact ⟨h.same a1 e1 e2, a2, e3⟩
    · have hlen : d.cur.length = d.has.length := curL_len (n := d.n) d.wait d.has h.ok.len h.ok.wait
      have hn2 : DskS.n { actD d with has := d.cur, wait := [] } = d.n := by
        show d.cur.length / 64 = d.has.length / 64
        rw [hlen]
      refine ⟨⟨⟨by rw [hn2]; show d.cur.length = _; rw [hlen]; exact h.ok.len, by rw [hn2]; exact h.ok.most, a1.fuse, fun p hp => by cases hp⟩, fun i h3 h4 => ?_, fun p hp => by cases hp⟩, hn2, e3⟩
      show sub (curL d.has d.wait) (i * 64) (i * 64 + 64) = m
      rw [hn2] at h4
      rw [sub_cur d.n h4 d.wait d.has h.ok.len h.ok.wait]
      have hno : d.wait.reverse.find? (fun p => p.1 == i) = none := by
        rw [List.find?_eq_none]
        intro p hp
        have := h.wait p (List.mem_reverse.1 hp)
        simp; omega
      rw [hno]
      exact h.has i h3 h4
theorem at_in {j : JrnS} {sec : Bool} {k : Nat} (hk : k < j.half) : j.first ≤ atJ j sec k ∧ atJ j sec k < j.first + 2 * j.half := by unfold atJ; split <;> omega
theorem OpO.wr (j : JrnS) (sec : Bool) (m : Nat) : ∀ (k : Nat) (s : List UInt8), k + m ≤ j.half → OpO j.first j.half (wrJ j sec m k s) := by
  induction m with
  | zero => intro k s _ d x h hn; exact ⟨h, rfl, rfl⟩
  | succ m ih =>
    intro k s hk d x h hn
    obtain ⟨b1, b2⟩ := at_in (j := j) (sec := sec) (k := k) (by omega)
    obtain ⟨a1, a2, a3⟩ := OpO.write b1 b2 (sub s 0 64) d x h hn
    rw [wrJ]
    split
    · obtain ⟨c1, c2, c3⟩ := ih (k + 1) (sub s 64 s.length) (by omega) _ x a1 (by have a2 : (writeD d (atJ j sec k : Nat) (sub s 0 64)).n = d.n := a2; omega)
      exact ⟨c1, c2.trans a2, c3.trans a3⟩
    · exact ⟨a1, a2, a3⟩
theorem OpO.clean (j : JrnS) (sec : Bool) (k : Nat) : OpO j.first j.half (cleanJ j sec k) := fun d x h hn => by
  unfold cleanJ
  split
  · exact ⟨h, rfl, rfl⟩
  · next hk =>
    obtain ⟨b1, b2⟩ := at_in (j := j) (sec := sec) (k := k) (by omega)
    exact OpO.write b1 b2 blankL d x h hn
theorem OpO.lay (j : JrnS) (sec : Bool) (k m : Nat) (s : List UInt8) (hm : 1 ≤ m) (hk : k + m ≤ j.half) : OpO j.first j.half (layJ j sec k m s) := by
  rw [lay_two]
  exact OpO.bind (OpO.bind (OpO.bind (OpO.wr j sec m k _ hk) (OpO.clean j sec _)) (OpO.flush _ _)) (OpO.bind (OpO.wr j sec 1 k _ (by omega)) (OpO.flush _ _))
theorem OpO.wrAll (j : JrnS) (sec : Bool) (ls : List (List UInt8)) : ∀ (k : Nat), k + sumM ls ≤ j.half → OpO j.first j.half (wrAll j sec k ls) := by
  induction ls with
  | nil => intro k _ d x h hn; exact ⟨h, rfl, rfl⟩
  | cons s r ih =>
    intro k hk
    rw [sumM_cons] at hk
    have e : Go.Proofs.YtcbepjepcabllaaGreatDoor.wrAll j sec k (s :: r) = fun d => bindE (wrJ j sec (s.length / 64) k s d) (Go.Proofs.YtcbepjepcabllaaGreatDoor.wrAll j sec (k + s.length / 64) r) := by funext d; rfl
    rw [e]
    exact OpO.bind (OpO.wr j sec _ k s (by omega)) (ih _ (by omega))
theorem OpO.anew (j : JrnS) (ls : List (List UInt8)) (hk : 1 + sumM ls ≤ j.half) : OpO j.first j.half (anewJ j ls) := by
  rw [anew_two]
  unfold twoP
  refine OpO.bind (OpO.bind ?_ (OpO.flush _ _)) (OpO.bind (OpO.wr j _ 1 0 _ (by omega)) (OpO.flush _ _))
  unfold anew1
  exact OpO.bind (OpO.bind (OpO.wrAll j _ ls 1 hk) (OpO.clean j _ _)) (OpO.wr j _ 1 0 _ (by omega))
/-- Behind a crash. -/
theorem OutD.lose {f half : Nat} {m : List UInt8} {d : DskS} (h : OutD f half m d) (keep : List Bool) {torn : Nat} (ht : torn ≤ 64) (g : Bool) (fz : Int) (hf : -1 ≤ fz ∧ fz ≤ 9223372036854775807) :
    OutD f half m { d with has := (loseS d.has d.wait keep torn d.wait.length).1, wait := [], gone := g, fuse := fz } ∧ DskS.n { d with has := (loseS d.has d.wait keep torn d.wait.length).1, wait := [], gone := g, fuse := fz } = d.n := by
  obtain ⟨h1, h2, h3⟩ := lose_inv (keep := keep) (torn := torn) h.ok.len h.ok.wait ht d.wait.length
  have hn : DskS.n { d with has := (loseS d.has d.wait keep torn d.wait.length).1, wait := [], gone := g, fuse := fz } = d.n := by
    show (loseS d.has d.wait keep torn d.wait.length).1.length / 64 = d.n
    rw [h1]; omega
  refine ⟨⟨⟨by rw [hn]; exact h1, by rw [hn]; exact h.ok.most, hf, fun p hp => by cases hp⟩, fun i h4 h5 => ?_, fun p hp => by cases hp⟩, hn⟩
  rw [hn] at h5
  refine h3 i h5 (fun x => x = m) (h.has i h4 h5) (fun x hx _ p hp hpi t _ => ?_)
  have := h.wait p hp
  omega
/-- What a step comes to, without regard to what the sectors hold: it is done, or the power went. -/
def SimW (op : DskS → DskS × Int) (d : DskS) : Prop := ((op d).2 = 0 ∧ OnD (op d).1 ∧ (op d).1.wait = []) ∨ ((op d).2 = 10 ∧ (op d).1.gone = true ∧ (op d).1.dead = false)
theorem flush_done {d : DskS} (h : (flushR d).2 = 0) : (flushR d).1.wait = [] := by
  have h : flushC d = 0 := h
  show (flushD d).wait = []
  unfold flushC at h
  unfold flushD
  split at h
  · next hr => exact absurd h hr
  · next hr =>
    rw [if_neg hr]
    split at h
    · cases h
    · next hf => rw [if_neg hf]
theorem two_done {o1 o2 : DskS → DskS × Int} {d : DskS} (h : (twoP o1 o2 d).2 = 0) : (twoP o1 o2 d).1.wait = [] := by
  unfold twoP at h ⊢
  by_cases h1 : (bindE (o1 d) flushR).2 = 0
  · rw [bindE_ok h1] at h ⊢
    by_cases h2 : (o2 (bindE (o1 d) flushR).1).2 = 0
    · rw [bindE_ok h2] at h ⊢
      exact flush_done h
    · rw [bindE_no h2] at h
      exact absurd h h2
  · rw [bindE_no h1] at h
    exact absurd h h1
theorem two_simW {n : Nat} {A1 A2 : Nat × List UInt8 → Prop} {o1 o2 : DskS → DskS × Int} (h1 : AddP n A1 o1) (h2 : AddP n A2 o2) {d : DskS} (hd : OnD d) (hn : d.n = n) (h0 : 0 < n) : SimW (twoP o1 o2) d := by
  have h := two_sim h1 h2 hd hn h0
  unfold Sim at h
  rcases h with ⟨b1, b2, _⟩ | ⟨b1, b2, b3, _⟩
  · exact .inl ⟨b1, b2, two_done b1⟩
  · exact .inr ⟨b1, b2, b3⟩
theorem lay_simW {j : JrnS} {d : DskS} (hd : OnD d) (hfits : j.first + 2 * j.half ≤ d.n) (hh : 2 ≤ j.half) (sec : Bool) {k m : Nat} (hm : 1 ≤ m) (hfit : k + m ≤ j.half) {s : List UInt8} (hs : s.length = 64 * m) : SimW (layJ j sec k m s) d := by
  rw [lay_two]
  have hul : (unmarkL s).length = 64 * m := by rw [unmarkL_len (by omega)]; exact hs
  have hs0 : (sub s 0 64).length = 64 := by rw [length_sub]; omega
  have a1 := ((AddP.wr (n := d.n) (sec := sec) hfits m k (unmarkL s) hfit hul).mono (B := fun p => wrA j sec m k (unmarkL s) p ∨ clA j sec (k + m) p) (fun _ h => .inl h)).bind
    ((AddP.clean (n := d.n) (sec := sec) hfits (k + m)).mono (fun _ h => .inr h))
  have a2 := AddP.wr (n := d.n) (sec := sec) hfits 1 k (sub s 0 64) (by omega) hs0
  exact two_simW a1 a2 hd rfl (by omega)
theorem anew_simW {j : JrnS} {d : DskS} (hd : OnD d) (hfits : j.first + 2 * j.half ≤ d.n) (hh : 2 ≤ j.half) (ls : List (List UInt8)) (hl : ∀ s ∈ ls, s.length = 64 * (s.length / 64)) (hk : 1 + sumM ls ≤ j.half) : SimW (anewJ j ls) d := by
  rw [anew_two]
  have hH := headL_len (j.epoch + 1)
  have hul : (unmarkL (headL (j.epoch + 1))).length = 64 * 1 := by rw [unmarkL_len (by omega)]; exact hH
  let A : Nat × List UInt8 → Prop := fun p => True
  have a1 : AddP d.n A (anew1 j ls) := by
    unfold anew1
    exact (((AddP.wrAll (n := d.n) (sec := !j.second) hfits ls 1 hk hl).mono (B := A) (fun _ _ => trivial)).bind ((AddP.clean (n := d.n) (sec := !j.second) hfits (1 + sumM ls)).mono (fun _ _ => trivial))).bind
      ((AddP.wr (n := d.n) (sec := !j.second) hfits 1 0 _ (by omega) hul).mono (fun _ _ => trivial))
  have a2 := AddP.wr (n := d.n) (sec := !j.second) hfits 1 0 (headL (j.epoch + 1)) (by omega) (by rw [hH])
  exact two_simW a1 a2 hd rfl (by omega)
end Go.Proofs.YtcbepjepcabllaaGreatDoor
/- A slice of numbers as a list; an argument []int, opened. -/
set_option linter.unusedVariables false
namespace Go.Proofs.YtcbepjepcabllaaGreatDoor
open Go Go.RowKit Go.ChangeShapes Go.WideShapes
/-- The slice holds these numbers. -/
def IntsAt (w : World) (A : Option Addr) (n : Nat) (zs : List Int) : Prop :=
  n = zs.length ∧ (0 < n → ∃ ad, A = some ad ∧ ∀ i (h : i < zs.length), w.cell? (ad.add i) = some (.int .i64 zs[i])) ∧ ∀ z ∈ zs, -9223372036854775808 ≤ z ∧ z ≤ 9223372036854775807
theorem IntsAt.q {w w' : World} {A : Option Addr} {n : Nat} {zs : List Int} (h : IntsAt w A n zs) (hq : Q w w') : IntsAt w' A n zs :=
  ⟨h.1, fun h0 => let ⟨ad, e, hc⟩ := h.2.1 h0; ⟨ad, e, fun i hi => hq.cell (hc i hi)⟩, h.2.2⟩
theorem IntsAt.at {w : World} {A : Option Addr} {n : Nat} {zs : List Int} (h : IntsAt w A n zs) {i : Nat} (hi : i < n) :
    ∃ ad, A = some ad ∧ ∃ z : Int, w.cell? (ad.add i) = some (.int .i64 z) ∧ -9223372036854775808 ≤ z ∧ z ≤ 9223372036854775807 := by
  obtain ⟨ad, e, hc⟩ := h.2.1 (by omega)
  have hi' : i < zs.length := by rw [← h.1]; exact hi
  exact ⟨ad, e, zs[i], hc i hi', h.2.2 _ (List.getElem_mem hi')⟩
end Go.Proofs.YtcbepjepcabllaaGreatDoor
/- A live disk's Write and Flush; a half by the image's bytes; what Open finds is a journal. -/
set_option linter.unusedVariables false
set_option linter.unusedSimpArgs false
namespace Go.Proofs.YtcbepjepcabllaaGreatDoor
open Go Go.RowKit
/-- The disk in memory, alive. -/
def LiveAt (w0 w : World) (bd bp gh n m : Nat) : Prop := ∃ d, DAt w0 w bd bp gh d ∧ Live d ∧ d.n = n ∧ d.wait.length ≤ m
theorem LiveAt.q {w0 w w' : World} {bd bp gh n m : Nat} (h : LiveAt w0 w bd bp gh n m) (hq : Q w w') : LiveAt w0 w' bd bp gh n m := by
  obtain ⟨d, h1, h2⟩ := h
  exact ⟨d, h1.q hq, h2⟩
theorem Write_live {w0 w : World} {bd bp gh n m : Nat} (k : Nat) (s : List UInt8) (h : LiveAt w0 w bd bp gh n m) (hk : k < n) (hs : s.length = 64) (hm : m ≤ 900000) (h0 : Q w0 w) :
    Calls Tryz.prog 8 #[.pointer (some ⟨bd, 0, none⟩), .int .i64 (k : Int), .string ⟨s.toArray⟩] w fun e w' => e = .returned .nilIface ∧ LiveAt w0 w' bd bp gh n (m + 1) ∧ Q w0 w' := by
  obtain ⟨d, h1, h2, rfl, h3⟩ := h
  refine (Write_any (k : Int) s h1 (by omega) (by omega) h0.size).mono ?_
  rintro e w' ⟨⟨v, he, hv⟩, hd, hk2⟩
  have hc := writeC_live h2 hk hs
  obtain ⟨l1, l2, _⟩ := live_write h2 hk hs
  have hw := write_wait d (k : Int) s
  refine ⟨?_, ⟨_, hd, l1, l2, by omega⟩, hk2.toQ h0 (by simp)⟩
  rcases hv with ⟨_, rfl⟩ | ⟨hn, _⟩
  · exact he
  · exact absurd hc hn
theorem Flush_live {w0 w : World} {bd bp gh n m : Nat} (h : LiveAt w0 w bd bp gh n m) (hn : 0 < n) (hm : m ≤ 900000) (h0 : Q w0 w) :
    Calls Tryz.prog 9 #[.pointer (some ⟨bd, 0, none⟩)] w fun e w' => e = .returned .nilIface ∧ (∃ d, DAt w0 w' bd bp gh d ∧ Live d ∧ d.n = n ∧ d.wait = []) ∧ Q w0 w' := by
  obtain ⟨d, h1, h2, rfl, h3⟩ := h
  obtain ⟨f1, f2, f3, f4, _⟩ := live_flush h2 hn
  refine (Flush_any h1 (by omega) h0.size).mono ?_
  rintro e w' ⟨⟨v, he, hv⟩, hd, hk2⟩
  refine ⟨?_, ⟨_, hd, f2, f3, f4⟩, hk2.toQ h0 (by simp)⟩
  rcases hv with ⟨_, rfl⟩ | ⟨hx, _⟩
  · exact he
  · exact absurd f1 hx
theorem sub_join (l : List UInt8) (a b c : Nat) (h1 : a ≤ b) (h2 : b ≤ c) : sub l a b ++ sub l b c = sub l a c := by
  unfold sub
  have e1 : l.take b = (l.take c).take b := by rw [List.take_take, Nat.min_eq_left h2]
  rw [e1]
  generalize l.take c = t
  have e2 : t.drop b = (t.drop a).drop (b - a) := by rw [List.drop_drop]; congr 1; omega
  rw [e2, List.drop_take]
  exact List.take_append_drop _ _
theorem readL_none {d : DskS} (hw : d.wait = []) (k : Nat) : readL d k = sub d.has (k * 64) (k * 64 + 64) := by unfold readL; rw [hw]; rfl
theorem half_bytes {j : JrnS} {sec : Bool} {d : DskS} (hw : d.wait = []) (k : Nat) : halfL j sec d k = sub d.has (atJ j sec 0 * 64) (atJ j sec 0 * 64 + 64 * k) := by
  induction k with
  | zero => unfold halfL sub; simp
  | succ k ih =>
    rw [halfL_succ, ih, readL_none hw]
    have e : atJ j sec k * 64 = atJ j sec 0 * 64 + 64 * k := by unfold atJ; omega
    rw [e, sub_join _ _ _ _ (by omega) (by omega)]
    congr 1
theorem sub_sub (l : List UInt8) (a b i j : Nat) (h : a + j ≤ b) : sub (sub l a b) i j = sub l (a + i) (a + j) := by
  unfold sub
  refine List.ext_getElem? fun q => ?_
  simp only [List.getElem?_drop, List.getElem?_take]
  by_cases hq : i + q < j
  · rw [if_pos hq, if_pos (by omega), if_pos (by omega)]; congr 1; omega
  · rw [if_neg hq, if_neg (by omega)]
theorem open_bytes {d : DskS} (hw : d.wait = []) (f half : Nat) (hl : f + 2 * half ≤ d.n) (ho : d.Ok) (X : List UInt8) (hX : X = sub d.has (64 * f) (64 * (f + 2 * half))) :
    openF f half d = foundOf (sub X 0 (64 * half)) (sub X (64 * half) X.length) half := by
  have hlen : X.length = 64 * (2 * half) := by rw [hX, length_sub, ho.len]; omega
  unfold openF
  rw [half_bytes hw, half_bytes hw, hlen, hX, sub_sub _ _ _ _ _ (by omega), sub_sub _ _ _ _ _ (by omega)]
  unfold atJ jrn0
  simp only [Bool.false_eq_true, if_false, if_true]
  congr 2 <;> omega
theorem recGo_bd {h : List UInt8} {e half : Nat} (hl : h.length = 64 * half) : ∀ (f next many : Nat), next ≤ half → next ≤ (recGo h e half f next many).2 ∧ (recGo h e half f next many).2 ≤ half ∧ (recGo h e half f next many).1.length ≤ (recGo h e half f next many).2 - next := by
  intro f
  induction f with
  | zero => intro next many hn; exact ⟨Nat.le_refl _, hn, Nat.zero_le _⟩
  | succ f ih =>
    intro next many hn
    rw [recGo_succ]
    by_cases hc : next < half ∧ UnpOk (sub h (next * 64) h.length) (e : Int) ((many + 1 : Nat) : Int)
    · rw [if_pos hc]
      obtain ⟨n, h1, h2, h3, h4⟩ := unp_len hc.2
      rw [length_sub] at h3
      rw [h4]
      have := ih (next + n) (many + 1) (by omega)
      simp only [List.length_cons]
      omega
    · rw [if_neg hc]; exact ⟨Nat.le_refl _, hn, Nat.zero_le _⟩
theorem found_bd {f half : Nat} {d : DskS} (ho : d.Ok) (hl : f + 2 * half ≤ d.n) (hh : 2 ≤ half) (he : (openF f half d).epoch ≠ 0) :
    (foundJ f half (openF f half d)).Ok ∧ 1 ≤ (openF f half d).next ∧ (openF f half d).next ≤ half ∧ (openF f half d).recs.length ≤ half := by
  have hl1 : (halfL (jrn0 f half) false d half).length = 64 * half := halfL_len ho hl half (Nat.le_refl _)
  have hl2 : (halfL (jrn0 f half) true d half).length = 64 * half := halfL_len ho hl half (Nat.le_refl _)
  have hm := ho.most
  unfold openF foundOf at he ⊢
  generalize halfL (jrn0 f half) false d half = a at *
  generalize halfL (jrn0 f half) true d half = b at *
  have hX : (if epN a < epN b then b else a).length = 64 * half := by split; exact hl2; exact hl1
  have hE : (if epN a < epN b then epN b else epN a) ≤ 4611686018427387904 := by have := epN_le a; have := epN_le b; split <;> omega
  generalize (if epN a < epN b then b else a) = X at *
  generalize (if epN a < epN b then epN b else epN a) = E at *
  generalize decide (epN a < epN b) = B at *
  have hr := recGo_bd (e := E) hX half 1 0 (by omega)
  have he' : E ≠ 0 := he
  refine ⟨⟨by show f + 2 * half ≤ 8192; omega, hh, ⟨hr.1, hr.2.1⟩, ?_, ?_⟩, hr.1, hr.2.1, ?_⟩
  · show (recGo X E half half 1 0).1.length ≤ 100000
    omega
  · show 1 ≤ E ∧ E ≤ 4611686018427387904
    omega
  · show (recGo X E half half 1 0).1.length ≤ half
    omega
/-- A text with bytes 0 behind it, up to whole sectors. -/
def padL (s : List UInt8) : List UInt8 := s ++ zL (63 - (s.length + 63) % 64)
theorem padL_len (s : List UInt8) : (padL s).length = 64 * ((s.length + 63) / 64) := by
  unfold padL; rw [List.length_append, length_zL]; omega
end Go.Proofs.YtcbepjepcabllaaGreatDoor
/- JournalPlays, plain: what is found on sectors; the state of a play. -/
set_option linter.unusedVariables false
set_option linter.unusedSimpArgs false
namespace Go.Proofs.YtcbepjepcabllaaGreatDoor
open Go Go.RowKit
theorem pay_want {P : List UInt8} {e n : Int} (hu : UnpOk P e n) : ∃ k : Nat, (endsN (nAt P 4)).toNat / 64 = k ∧ 64 * k ≤ P.length ∧ wantN (payL P) = k ∧ (payL P).length ≤ 60000 := by
  obtain ⟨k, k1, k2, k3, k4⟩ := unp_len hu
  have hN := hu.2.2.2.1
  refine ⟨k, k4, k3, ?_⟩
  unfold endsN at k1
  unfold wantN payL
  rw [length_sub]
  generalize nAt P 4 = N at *
  generalize P.length = L at *
  clear hu
  omega
theorem recGo_want {h : List UInt8} {e half : Nat} (hl : h.length = 64 * half) : ∀ (f next many : Nat), next ≤ half → (recGo h e half f next many).2 = next + wantS (recGo h e half f next many).1 ∧ ∀ p ∈ (recGo h e half f next many).1, p.length ≤ 60000 := by
  intro f
  induction f with
  | zero => intro next many hn; exact ⟨rfl, fun p hp => by cases hp⟩
  | succ f ih =>
    intro next many hn
    rw [recGo_succ]
    split
    · next hu =>
      obtain ⟨h1, h2⟩ := hu
      have hP : (sub h (next * 64) h.length).length = 64 * half - next * 64 := by rw [length_sub]; omega
      obtain ⟨k, k4, k3, hw, hL⟩ := pay_want h2
      rw [hP] at k3
      have hkn : next + k ≤ half := by omega
      rw [k4]
      obtain ⟨i1, i2⟩ := ih (next + k) (many + 1) hkn
      generalize payL (sub h (next * 64) h.length) = q at *
      generalize recGo h e half f (next + k) (many + 1) = R at *
      refine ⟨?_, fun p hp => ?_⟩
      · show R.2 = next + wantS (q :: R.1)
        rw [i1, wantS_cons, hw]; omega
      · rcases List.mem_cons.1 hp with hp | hp
        · rw [hp]; exact hL
        · exact i2 p hp
    · exact ⟨rfl, fun p hp => by cases hp⟩
theorem found_want {f half : Nat} {d : DskS} (ho : d.Ok) (hl : f + 2 * half ≤ d.n) (hh : 2 ≤ half) : (openF f half d).next = 1 + wantS (openF f half d).recs ∧ ∀ p ∈ (openF f half d).recs, p.length ≤ 60000 := by
  have hl1 : (halfL (jrn0 f half) false d half).length = 64 * half := halfL_len ho hl half (Nat.le_refl _)
  have hl2 : (halfL (jrn0 f half) true d half).length = 64 * half := halfL_len ho hl half (Nat.le_refl _)
  unfold openF foundOf
  generalize halfL (jrn0 f half) false d half = a at *
  generalize halfL (jrn0 f half) true d half = b at *
  have hX : (if epN a < epN b then b else a).length = 64 * half := by split; exact hl2; exact hl1
  generalize (if epN a < epN b then b else a) = X at *
  generalize (if epN a < epN b then epN b else epN a) = E at *
  exact recGo_want hX half 1 0 (by omega)
/-- The state of a play: the journal and its disk, the document's (its epoch, its records), is it closed, have bits turned, the records before and behind the call that failed. -/
structure PlS where
  j : JrnS
  d : DskS
  ep : Nat
  recs : List (List UInt8)
  closed : Bool
  rot : Bool
  was : List (List UInt8)
  would : List (List UInt8)
/-- What holds between the steps. -/
structure PlOk (f half : Nat) (m : List UInt8) (s : PlS) : Prop where
  out : OutD f half m s.d
  n : s.d.n = 64
  dead : s.d.dead = false
  waits : s.d.wait.length ≤ 100000
  place : f + 2 * half ≤ 64
  half2 : 2 ≤ half
  jf : s.j.first = f
  jh : s.j.half = half
  jok : s.j.Ok
  ep : 1 ≤ s.ep ∧ s.ep ≤ 4611686018427387904
  fits : 1 + wantS s.recs ≤ half
  small : ∀ p ∈ s.recs, p.length ≤ 60000
  lw : s.was.length ≤ 100 ∧ s.would.length ≤ 100
  jcl : s.j.closed = s.closed
  gone : s.d.gone = s.closed
  live : s.closed = false → s.d.wait = [] ∧ s.ep = s.j.epoch ∧ s.j.many = s.recs.length ∧ s.j.next = 1 + wantS s.recs
  inv : s.closed = false → s.rot = false → JInv s.j (lvD s.d) s.recs ∧ s.was = s.recs ∧ s.would = s.recs
  crash : s.closed = true → s.rot = false → ∀ keep torn, torn ≤ 64 → ∃ j r, JInv j (crashD s.d keep torn) r ∧ j.first = f ∧ j.half = half ∧ (r = s.was ∨ r = s.would)
theorem PlOk.on {f half : Nat} {m : List UInt8} {s : PlS} (h : PlOk f half m s) (hc : s.closed = false) : OnD s.d := ⟨h.gone.trans hc, h.dead, h.out.ok⟩
end Go.Proofs.YtcbepjepcabllaaGreatDoor
/- JournalPlays, plain: what the steps leave. -/
set_option linter.unusedVariables false
set_option linter.unusedSimpArgs false
namespace Go.Proofs.YtcbepjepcabllaaGreatDoor
open Go Go.RowKit
theorem PlOk.len {f half : Nat} {m : List UInt8} {s : PlS} (h : PlOk f half m s) : s.recs.length ≤ 31 := by
  have h1 := wantS_ge s.recs
  have h2 := h.fits
  have h3 := h.place
  omega
theorem len_fit {half f : Nat} {l : List (List UInt8)} (h : 1 + wantS l ≤ half) (hp : f + 2 * half ≤ 64) : l.length ≤ 31 := by
  have h1 := wantS_ge l
  omega
/-- One record more. -/
theorem PlOk.append {f half : Nat} {m : List UInt8} {s : PlS} (h : PlOk f half m s) (hc : s.closed = false) (p : List UInt8) (hp : p.length ≤ 60000) (hfit : s.j.next + wantN p ≤ s.j.half) (r : DskS × Int) (hr : layJ s.j s.j.second s.j.next (wantN p) (recL s.j p) s.d = r) :
    (r.2 = 0 ∧ r.1.gone = false ∧ PlOk f half m { s with j := { s.j with many := s.j.many + 1, next := s.j.next + wantN p }, d := r.1, recs := s.recs ++ [p], was := s.recs ++ [p], would := s.recs ++ [p] }) ∨
    (r.2 = 10 ∧ r.1.gone = true ∧ PlOk f half m { s with j := { s.j with closed := true }, d := r.1, closed := true, would := s.recs ++ [p] }) := by
  have hon := h.on hc
  obtain ⟨hw, he, hm, hn⟩ := h.live hc
  have hfits : s.j.first + 2 * s.j.half ≤ s.d.n := by rw [h.jf, h.jh, h.n]; exact h.place
  have hh2 : 2 ≤ s.j.half := h.jok.half
  have hsim := lay_simW hon hfits hh2 s.j.second (wantN_pos p) hfit (recL_len s.j p)
  have hout := OpO.lay s.j s.j.second s.j.next (wantN p) (recL s.j p) (wantN_pos p) hfit s.d m (by rw [h.jf, h.jh]; exact h.out) hfits
  have hwt := lay_wait s.j s.j.second s.j.next (wantN p) (recL s.j p) s.d
  rw [hw, List.length_nil] at hwt
  have hwn : wantN p ≤ 1000 := by unfold wantN; omega
  unfold SimW at hsim
  rw [hr] at hsim hout hwt
  rw [h.jf, h.jh] at hout
  obtain ⟨o1, o2, o3⟩ := hout
  have hac : appendC s.j p = 0 := by
    unfold appendC
    have hcl : s.j.closed = false := h.jcl.trans hc
    rw [hcl, if_neg (by decide), if_neg (by omega)]
  have haj : appendJ s.j p = { s.j with many := s.j.many + 1, next := s.j.next + wantN p } := by unfold appendJ; rw [if_pos hac]
  have had : appendD s.j p s.d = r := by unfold appendD; rw [if_pos hac]; exact hr
  have hnew : 1 + wantS (s.recs ++ [p]) ≤ half := by rw [wantS_snoc]; rw [hn, h.jh] at hfit; omega
  have hsm : ∀ q ∈ s.recs ++ [p], q.length ≤ 60000 := fun q hq => by
    rw [List.mem_append, List.mem_singleton] at hq
    rcases hq with hq | hq
    · exact h.small q hq
    · subst hq; exact hp
  have hl1 := len_fit hnew h.place
  have hrl := h.len
  rcases hsim with ⟨b1, b2, b3⟩ | ⟨b1, b2, b3⟩
  · refine .inl ⟨b1, b2.gone, ⟨o1, o2.trans h.n, b2.dead, by rw [b3]; exact Nat.zero_le _, h.place, h.half2, h.jf, h.jh, ?_, h.ep, hnew, hsm, ⟨by show (s.recs ++ [p]).length ≤ 100; omega, by show (s.recs ++ [p]).length ≤ 100; omega⟩, h.jcl, b2.gone.trans hc.symm, fun _ => ⟨b3, he, ?_, ?_⟩, fun _ hrot => ⟨?_, rfl, rfl⟩, fun hcl => ?_⟩⟩
    · have := h.jok
      have hmn := this.many
      have hnx := this.next
      have hrl2 : s.j.many ≤ 31 := by rw [hm]; exact hrl
      exact ⟨this.place, this.half, ⟨by show 1 ≤ s.j.next + wantN p; omega, hfit⟩, by show s.j.many + 1 ≤ 100000; omega, this.epoch⟩
    · show s.j.many + 1 = (s.recs ++ [p]).length
      rw [hm]; simp
    · show s.j.next + wantN p = 1 + wantS (s.recs ++ [p])
      rw [hn, wantS_snoc]; omega
    · have hi := (h.inv hc hrot).1
      have hx := append_crash hon hi p hp hfit
      rw [had, haj] at hx
      rcases hx with ⟨_, _, h3⟩ | ⟨h2, _⟩
      · exact h3
      · rw [b1] at h2; cases h2
    · have : s.closed = true := hcl
      rw [hc] at this; cases this
  · refine .inr ⟨b1, b2, ⟨o1, o2.trans h.n, b3, (by show r.1.wait.length ≤ 100000; omega), h.place, h.half2, h.jf, h.jh, ?_, h.ep, h.fits, h.small, ⟨h.lw.1, by show (s.recs ++ [p]).length ≤ 100; omega⟩, rfl, b2, fun h => absurd (show true = false from h) (by decide), fun h => absurd (show true = false from h) (by decide), fun _ hrot keep torn ht => ?_⟩⟩
    · have := h.jok
      exact ⟨this.place, this.half, this.next, this.many, this.epoch⟩
    · obtain ⟨hi, hwas, _⟩ := h.inv hc hrot
      have hx := append_crash hon hi p hp hfit
      rw [had, haj] at hx
      rcases hx with ⟨h2, _⟩ | ⟨_, _, _, _, h5⟩
      · rw [b1] at h2; cases h2
      · rcases h5 keep torn ht with h6 | h6
        · exact ⟨_, _, h6, h.jf, h.jh, .inl hwas.symm⟩
        · exact ⟨_, _, h6, h.jf, h.jh, .inr rfl⟩
/-- Records laid anew. -/
theorem PlOk.reset {f half : Nat} {m : List UInt8} {s : PlS} (h : PlOk f half m s) (hc : s.closed = false) (ls : List (List UInt8)) (hp : ∀ p ∈ ls, p.length ≤ 60000) (hfit : wantS ls + 1 ≤ s.j.half) (hee : s.j.epoch < 4611686018427387904) (r : DskS × Int) (hr : resetD s.j ls s.d = r) :
    (r.2 = 0 ∧ r.1.gone = false ∧ PlOk f half m { s with j := resetJ s.j ls, d := r.1, ep := s.ep + 1, recs := ls, was := ls, would := ls }) ∨
    (r.2 = 10 ∧ r.1.gone = true ∧ PlOk f half m { s with j := { s.j with closed := true }, d := r.1, closed := true, would := ls }) := by
  have hon := h.on hc
  obtain ⟨hw, he, hm, hn⟩ := h.live hc
  have hfits : s.j.first + 2 * s.j.half ≤ s.d.n := by rw [h.jf, h.jh, h.n]; exact h.place
  have hh2 : 2 ≤ s.j.half := h.jok.half
  have hsum : sumM (packsL (s.j.epoch + 1) 0 ls) = wantS ls := wantS_packs _ _ _
  have hsim := anew_simW hon hfits hh2 (packsL (s.j.epoch + 1) 0 ls) (fun x hx => (packsL_mem _ ls hp 0 x hx).1) (by rw [hsum]; omega)
  have hout := OpO.anew s.j (packsL (s.j.epoch + 1) 0 ls) (by rw [hsum]; omega) s.d m (by rw [h.jf, h.jh]; exact h.out) hfits
  have hwt := anew_wait s.j (packsL (s.j.epoch + 1) 0 ls) s.d
  rw [hw, List.length_nil, hsum] at hwt
  have hr' : anewJ s.j (packsL (s.j.epoch + 1) 0 ls) s.d = r := hr
  unfold SimW at hsim
  rw [hr'] at hsim hout hwt
  rw [h.jf, h.jh] at hout
  obtain ⟨o1, o2, o3⟩ := hout
  have hfh : wantS ls + 1 ≤ half := by rw [← h.jh]; exact hfit
  have hnew : 1 + wantS ls ≤ half := by omega
  have hl1 := len_fit hnew h.place
  have hpl := h.place
  have hep := h.ep
  rcases hsim with ⟨b1, b2, b3⟩ | ⟨b1, b2, b3⟩
  · refine .inl ⟨b1, b2.gone, ⟨o1, o2.trans h.n, b2.dead, by rw [b3]; exact Nat.zero_le _, h.place, h.half2, h.jf, h.jh, ?_, ⟨by show 1 ≤ s.ep + 1; omega, by show s.ep + 1 ≤ _; omega⟩, hnew, hp, ⟨by show ls.length ≤ 100; omega, by show ls.length ≤ 100; omega⟩, h.jcl, b2.gone.trans hc.symm, fun _ => ⟨b3, by show s.ep + 1 = s.j.epoch + 1; omega, rfl, rfl⟩, fun _ hrot => ⟨?_, rfl, rfl⟩, fun hcl => ?_⟩⟩
    · have := h.jok
      exact ⟨this.place, this.half, ⟨by show 1 ≤ 1 + wantS ls; omega, by show 1 + wantS ls ≤ s.j.half; omega⟩, by show ls.length ≤ 100000; omega, by show 1 ≤ s.j.epoch + 1; omega, by show s.j.epoch + 1 ≤ _; omega⟩
    · have hi := (h.inv hc hrot).1
      have hx := reset_crash hon hi ls hp hfit hee
      rw [hr] at hx
      rcases hx with ⟨_, _, h3⟩ | ⟨h2, _⟩
      · exact h3
      · rw [b1] at h2; cases h2
    · have : s.closed = true := hcl
      rw [hc] at this; cases this
  · refine .inr ⟨b1, b2, ⟨o1, o2.trans h.n, b3, (by show r.1.wait.length ≤ 100000; omega), h.place, h.half2, h.jf, h.jh, ?_, h.ep, h.fits, h.small, ⟨h.lw.1, by show ls.length ≤ 100; omega⟩, rfl, b2, fun h => absurd (show true = false from h) (by decide), fun h => absurd (show true = false from h) (by decide), fun _ hrot keep torn ht => ?_⟩⟩
    · have := h.jok
      exact ⟨this.place, this.half, this.next, this.many, this.epoch⟩
    · obtain ⟨hi, hwas, _⟩ := h.inv hc hrot
      have hx := reset_crash hon hi ls hp hfit hee
      rw [hr] at hx
      rcases hx with ⟨h2, _⟩ | ⟨_, _, _, _, h5⟩
      · rw [b1] at h2; cases h2
      · rcases h5 keep torn ht with h6 | h6
        · exact ⟨_, _, h6, h.jf, h.jh, .inl hwas.symm⟩
        · exact ⟨_, _, h6, h.jf, h.jh, .inr rfl⟩
/-- A fuse is laid. -/
theorem PlOk.fuse {f half : Nat} {m : List UInt8} {s : PlS} (h : PlOk f half m s) (n : Int) (hn : -1 ≤ n ∧ n ≤ 9223372036854775807) : PlOk f half m { s with d := { s.d with fuse := n } } :=
  ⟨h.out.same ⟨h.out.ok.len, h.out.ok.most, hn, h.out.ok.wait⟩ rfl rfl, h.n, h.dead, h.waits, h.place, h.half2, h.jf, h.jh, h.jok, h.ep, h.fits, h.small, h.lw, h.jcl, h.gone, h.live, h.inv, h.crash⟩
/-- Bits have turned. -/
theorem PlOk.turn {f half : Nat} {m : List UInt8} {s : PlS} (h : PlOk f half m s) (hc : s.closed = false) (b : List UInt8) (hb : b.length = s.d.has.length) (ho : ∀ i, ¬ (f ≤ i ∧ i < f + 2 * half) → i < s.d.n → sub b (i * 64) (i * 64 + 64) = sub s.d.has (i * 64) (i * 64 + 64)) : PlOk f half m { s with d := { s.d with has := b }, rot := true } := by
  have hn : DskS.n { s.d with has := b } = s.d.n := by show b.length / 64 = s.d.has.length / 64; rw [hb]
  refine ⟨⟨⟨by rw [hn]; show b.length = _; rw [hb]; exact h.out.ok.len, by rw [hn]; exact h.out.ok.most, h.out.ok.fuse, fun p hp => by rw [hn]; exact h.out.ok.wait p hp⟩, fun i h1 h2 => ?_, h.out.wait⟩, hn.trans h.n, h.dead, h.waits, h.place, h.half2, h.jf, h.jh, h.jok, h.ep, h.fits, h.small, h.lw, h.jcl, h.gone, h.live, fun _ h => (by cases h), fun h2 => ?_⟩
  · rw [hn] at h2
    show sub b (i * 64) (i * 64 + 64) = m
    rw [ho i h1 h2]; exact h.out.has i h1 h2
  · have : s.closed = true := h2
    rw [hc] at this; cases this
/-- The journal is opened by what is there. -/
theorem PlOk.opened {f half : Nat} {m : List UInt8} {d : DskS} {rot : Bool} (out : OutD f half m d) (hn : d.n = 64) (hdead : d.dead = false) (hgone : d.gone = false) (hw : d.wait = []) (hpl : f + 2 * half ≤ 64) (hh : 2 ≤ half) (he : (openF f half d).epoch ≠ 0)
    (hi : rot = false → ∃ j r, JInv j (lvD d) r ∧ j.first = f ∧ j.half = half) : PlOk f half m ⟨foundJ f half (openF f half d), d, (openF f half d).epoch, (openF f half d).recs, false, rot, (openF f half d).recs, (openF f half d).recs⟩ := by
  obtain ⟨h1, h2, h3, h4⟩ := found_bd out.ok (by omega) hh he
  obtain ⟨h5, h6⟩ := found_want (f := f) out.ok (by omega) hh
  refine ⟨out, hn, hdead, by rw [hw]; exact Nat.zero_le _, hpl, hh, rfl, rfl, h1, h1.epoch, by show 1 + wantS (openF f half d).recs ≤ half; omega, h6, ⟨by show (openF f half d).recs.length ≤ 100; omega, by show (openF f half d).recs.length ≤ 100; omega⟩, rfl, hgone, fun _ => ⟨hw, rfl, rfl, h5⟩, fun _ hr => ⟨?_, rfl, rfl⟩, fun h => by cases h⟩
  obtain ⟨j, r, hj, hf, hhf⟩ := hi hr
  have ho := hj.open
  rw [hf, hhf] at ho
  have ho' : openF f half d = ⟨j.second, j.epoch, r, j.next⟩ := ho
  show JInv (foundJ f half (openF f half d)) (lvD d) (openF f half d).recs
  rw [ho']
  have : foundJ f half ⟨j.second, j.epoch, r, j.next⟩ = j := by
    have h7 := hj.many
    have h8 := hj.closed
    obtain ⟨a1, a2, a3, a4, a5, a6, a7⟩ := j
    simp only at hf hhf h7 h8
    subst hf hhf h7 h8
    rfl
  rw [this]
  exact hj
/-- In a play without rot a journal is found. -/
theorem open_inv {f half : Nat} {d : DskS} {j : JrnS} {r : List (List UInt8)} (hj : JInv j (lvD d) r) (hf : j.first = f) (hh : j.half = half) : (openF f half d).epoch ≠ 0 ∧ (openF f half d).recs = r := by
  have ho := hj.open
  rw [hf, hh] at ho
  have ho' : openF f half d = ⟨j.second, j.epoch, r, j.next⟩ := ho
  rw [ho']
  have := hj.ok.epoch
  exact ⟨by show j.epoch ≠ 0; omega, rfl⟩
end Go.Proofs.YtcbepjepcabllaaGreatDoor
/- The play's world in memory; did. -/
set_option linter.unusedVariables false
set_option linter.unusedSimpArgs false
namespace Go.Proofs.YtcbepjepcabllaaGreatDoor
open Go Go.RowKit
def worldC (bp bd : Nat) (pj pr : Value) (f size : Int) (closed over rot : Bool) (wa wo : Value) : Array Value := #[.pointer (some ⟨bp, 0, none⟩), .pointer (some ⟨bd, 0, none⟩), pj, pr, .int .i64 f, .int .i64 size, .bool closed, .bool over, .bool rot, wa, wo]
def WAt (w : World) (bw bp bd : Nat) (pj pr : Value) (f size : Int) (closed over rot : Bool) (wa wo : Value) : Prop := w.heap[bw]? = some (.cells (worldC bp bd pj pr f size closed over rot wa wo) 33 (0, 0))
section
variable {w : World} {bw bp bd : Nat} {pj pr : Value} {f size : Int} {closed over rot : Bool} {wa wo : Value}
theorem WAt.q {w' : World} (h : WAt w bw bp bd pj pr f size closed over rot wa wo) (hq : Q w w') : WAt w' bw bp bd pj pr f size closed over rot wa wo := hq.block h
theorem WAt.k {w0 w' : World} {S : List Nat} (h : WAt w bw bp bd pj pr f size closed over rot wa wo) (hk : K w0 S w w') (hs : bw ∉ S) : WAt w' bw bp bd pj pr f size closed over rot wa wo := hk.heap hs (by decide) h
theorem WAt.gb {w' : World} {g : Nat} (h : WAt w bw bp bd pj pr f size closed over rot wa wo) (hg : w.grownBy w' (some g)) (hs : bw ≠ g) : WAt w' bw bp bd pj pr f size closed over rot wa wo := by
  unfold WAt at *
  rw [hg.block bw (lt_of_heap h) (fun e => by injection e with e; exact hs e)]; exact h
theorem WAt.c0 (h : WAt w bw bp bd pj pr f size closed over rot wa wo) : w.cell? ⟨bw, 0, none⟩ = some (.pointer (some ⟨bp, 0, none⟩)) := by rw [cell_of_row _ _ _ _ _ _ h]; rfl
theorem WAt.c1 (h : WAt w bw bp bd pj pr f size closed over rot wa wo) : w.cell? ⟨bw, 1, none⟩ = some (.pointer (some ⟨bd, 0, none⟩)) := by rw [cell_of_row _ _ _ _ _ _ h]; rfl
theorem WAt.c2 (h : WAt w bw bp bd pj pr f size closed over rot wa wo) : w.cell? ⟨bw, 2, none⟩ = some pj := by rw [cell_of_row _ _ _ _ _ _ h]; rfl
theorem WAt.c3 (h : WAt w bw bp bd pj pr f size closed over rot wa wo) : w.cell? ⟨bw, 3, none⟩ = some pr := by rw [cell_of_row _ _ _ _ _ _ h]; rfl
theorem WAt.c4 (h : WAt w bw bp bd pj pr f size closed over rot wa wo) : w.cell? ⟨bw, 4, none⟩ = some (.int .i64 f) := by rw [cell_of_row _ _ _ _ _ _ h]; rfl
theorem WAt.c5 (h : WAt w bw bp bd pj pr f size closed over rot wa wo) : w.cell? ⟨bw, 5, none⟩ = some (.int .i64 size) := by rw [cell_of_row _ _ _ _ _ _ h]; rfl
theorem WAt.c6 (h : WAt w bw bp bd pj pr f size closed over rot wa wo) : w.cell? ⟨bw, 6, none⟩ = some (.bool closed) := by rw [cell_of_row _ _ _ _ _ _ h]; rfl
theorem WAt.c7 (h : WAt w bw bp bd pj pr f size closed over rot wa wo) : w.cell? ⟨bw, 7, none⟩ = some (.bool over) := by rw [cell_of_row _ _ _ _ _ _ h]; rfl
theorem WAt.c8 (h : WAt w bw bp bd pj pr f size closed over rot wa wo) : w.cell? ⟨bw, 8, none⟩ = some (.bool rot) := by rw [cell_of_row _ _ _ _ _ _ h]; rfl
theorem WAt.c9 (h : WAt w bw bp bd pj pr f size closed over rot wa wo) : w.cell? ⟨bw, 9, none⟩ = some wa := by rw [cell_of_row _ _ _ _ _ _ h]; rfl
theorem WAt.c10 (h : WAt w bw bp bd pj pr f size closed over rot wa wo) : w.cell? ⟨bw, 10, none⟩ = some wo := by rw [cell_of_row _ _ _ _ _ _ h]; rfl
theorem WAt.fz (h : WAt w bw bp bd pj pr f size closed over rot wa wo) (i : Nat) : w.frozen? ⟨bw, i, none⟩ = false := frozen_of_row w bw i _ _ h
theorem WAt.s2 (h : WAt w bw bp bd pj pr f size closed over rot wa wo) (x : Value) : WAt (w.setCell ⟨bw, 2, none⟩ x) bw bp bd x pr f size closed over rot wa wo := by unfold WAt; rw [heap_setCell_any w bw 2 _ _ _ _ h]; rfl
theorem WAt.s3 (h : WAt w bw bp bd pj pr f size closed over rot wa wo) (x : Value) : WAt (w.setCell ⟨bw, 3, none⟩ x) bw bp bd pj x f size closed over rot wa wo := by unfold WAt; rw [heap_setCell_any w bw 3 _ _ _ _ h]; rfl
theorem WAt.s4 (h : WAt w bw bp bd pj pr f size closed over rot wa wo) (x : Int) : WAt (w.setCell ⟨bw, 4, none⟩ (.int .i64 x)) bw bp bd pj pr x size closed over rot wa wo := by unfold WAt; rw [heap_setCell_any w bw 4 _ _ _ _ h]; rfl
theorem WAt.s5 (h : WAt w bw bp bd pj pr f size closed over rot wa wo) (x : Int) : WAt (w.setCell ⟨bw, 5, none⟩ (.int .i64 x)) bw bp bd pj pr f x closed over rot wa wo := by unfold WAt; rw [heap_setCell_any w bw 5 _ _ _ _ h]; rfl
theorem WAt.s6 (h : WAt w bw bp bd pj pr f size closed over rot wa wo) (x : Bool) : WAt (w.setCell ⟨bw, 6, none⟩ (.bool x)) bw bp bd pj pr f size x over rot wa wo := by unfold WAt; rw [heap_setCell_any w bw 6 _ _ _ _ h]; rfl
theorem WAt.s7 (h : WAt w bw bp bd pj pr f size closed over rot wa wo) (x : Bool) : WAt (w.setCell ⟨bw, 7, none⟩ (.bool x)) bw bp bd pj pr f size closed x rot wa wo := by unfold WAt; rw [heap_setCell_any w bw 7 _ _ _ _ h]; rfl
theorem WAt.s8 (h : WAt w bw bp bd pj pr f size closed over rot wa wo) (x : Bool) : WAt (w.setCell ⟨bw, 8, none⟩ (.bool x)) bw bp bd pj pr f size closed over x wa wo := by unfold WAt; rw [heap_setCell_any w bw 8 _ _ _ _ h]; rfl
theorem WAt.s9 (h : WAt w bw bp bd pj pr f size closed over rot wa wo) (x : Value) : WAt (w.setCell ⟨bw, 9, none⟩ x) bw bp bd pj pr f size closed over rot x wo := by unfold WAt; rw [heap_setCell_any w bw 9 _ _ _ _ h]; rfl
theorem WAt.s10 (h : WAt w bw bp bd pj pr f size closed over rot wa wo) (x : Value) : WAt (w.setCell ⟨bw, 10, none⟩ x) bw bp bd pj pr f size closed over rot wa x := by unfold WAt; rw [heap_setCell_any w bw 10 _ _ _ _ h]; rfl
end
theorem StrS.gb {w w' : World} {g : Nat} {v : Value} {ls : List (List UInt8)} (h : StrS w v ls) (hg : w.grownBy w' (some g)) (hs : elemT w g ≠ some 9) : StrS w' v ls :=
  h.heap hg.size fun k h1 h2 => hg.block k h1 (fun e => by injection e with e; subst e; exact hs h2)
theorem RJAt.gb {w w' : World} {g br : Nat} {H E : Int} {v : Value} (h : RJAt w br H E v) (hg : w.grownBy w' (some g)) (hs : br ≠ g) : RJAt w' br H E v := by
  unfold RJAt at *
  rw [hg.block br (lt_of_heap h) (fun e => by injection e with e; exact hs e)]; exact h
theorem JD.gb {w0 w w' : World} {bj bd bp gh g : Nat} {j : JrnS} {d : DskS} (h : JD w0 w bj bd bp gh j d) (hg : w.grownBy w' (some g)) (ht : dT (elemT w g) = false) (hne : bj ≠ g) : JD w0 w' bj bd bp gh j d := by
  refine ⟨?_, h.d.gb hg ht, h.n⟩
  have hj := h.j
  unfold JAt at hj ⊢
  rw [hg.block bj (lt_of_heap hj) (fun e => by injection e with e; exact hne e)]
  exact hj
theorem WrapAt.gb {w w' : World} {b g : Nat} {c : Int} (h : WrapAt w b c) (hg : w.grownBy w' (some g)) (ht : elemT w g ≠ some 87) : WrapAt w' b c := by
  obtain ⟨b2, h1, h2⟩ := h
  refine ⟨b2, ?_, ?_⟩
  · rw [hg.block b (lt_of_heap h1) (fun e => by injection e with e; subst e; exact ht (elemT_of h1))]; exact h1
  · unfold FaultAt at *
    rw [hg.block b2 (lt_of_heap h2) (fun e => by injection e with e; subst e; exact ht (elemT_of h2))]; exact h2
theorem ErrT.gb {w w' : World} {g : Nat} (h : ErrT w) (hg : w.grownBy w' (some g)) (hne : 0 ≠ g) : ErrT w' := by
  unfold ErrT at *
  rw [cell_heap (hg.block _ ?_ ?_)]
  · exact h
  · rcases Nat.lt_or_ge 0 w.heap.size with h2 | h2
    · exact h2
    · simp [World.cell?, Array.getElem?_eq_none h2] at h
  · intro e; injection e with e; exact hne e
section
variable {w : World} {bw bp bd : Nat} {pj pr : Value} {f size : Int} {over rot : Bool} {wa wo : Value}
set_option maxHeartbeats 1000000 in
theorem did_closed (v pn : Value) (e : Int) (h : WAt w bw bp bd pj pr f size true over rot wa wo) (hv : ErrIs w v 16 0) :
    Calls Tryz.prog 37 #[.pointer (some ⟨bw, 0, none⟩), v, .int .i64 e, pn] w fun x w' => x = .returned (.bool true) ∧ w = w' := by
  have HI := Lib.hid (is_some v 16 w hv (.inr (.inr (.inr rfl))))
  have c6 := h.c6
  clear h hv
  go_enter Tryz.func37, Tryz.ntmps37
  go_wp2_with fail
  refine HI.out.mono ?_
  rintro x w1 ⟨rfl, rfl⟩
  go_wp2_with fail
  go_ret
  exact ⟨rfl, rfl⟩
set_option maxHeartbeats 1000000 in
theorem did_err (v pn : Value) (e : Int) (h : WAt w bw bp bd pj pr f size false over rot wa wo) (hv : ErrIs w v e 0) (he : e = 1 ∨ e = 12) :
    Calls Tryz.prog 37 #[.pointer (some ⟨bw, 0, none⟩), v, .int .i64 e, pn] w fun x w' => x = .returned (.bool true) ∧ w = w' := by
  have HI := Lib.hid (is_some v e w hv (by omega))
  have c6 := h.c6
  have g0 : (e == 0) = false := by rcases he with rfl | rfl <;> rfl
  have g1 : (e != 0) = true := by rcases he with rfl | rfl <;> rfl
  clear h hv
  go_enter Tryz.func37, Tryz.ntmps37
  go_wp2_with fail
  refine HI.out.mono ?_
  rintro x w1 ⟨rfl, rfl⟩
  go_wp2_with fail
  go_ret
  exact ⟨rfl, rfl⟩
set_option maxHeartbeats 2000000 in
theorem did_gone {w0 : World} {gh : Nat} {d : DskS} {bn : Nat} {H E : Int} (A : Option Addr) (n cp : Nat) (b : Nat) (h : WAt w bw bp bd pj pr f size false over rot wa wo) (hd : DAt w0 w bd bp gh d) (hg : d.gone = true) (hr : RJAt w bn H E (.slice A n cp)) (hv : WrapAt w b 10) (het : ErrT w) :
    Calls Tryz.prog 37 #[.pointer (some ⟨bw, 0, none⟩), .iface 84 (.pointer (some ⟨b, 0, none⟩)), .int .i64 0, .pointer (some ⟨bn, 0, none⟩)] w fun x w' => x = .returned (.bool true) ∧ WAt w' bw bp bd pj pr f size true over rot wa (.slice A n cp) ∧ w.grownBy w' (some bw) := by
  have HG := Lib.hid (Gone_any hd)
  rw [hg] at HG
  have c0 := h.c0
  have c6 := h.c6
  have f6 := h.fz 6
  have h6 := h.s6 true
  have hne : bn ≠ bw := fun e => by
    subst e
    unfold RJAt WAt at *
    rw [h] at hr; injection hr with hr; injection hr with _ e2 _; revert e2; decide
  have hg6 := gb_setCell w bw 6 (.bool true)
  have r6 := (hr.gb hg6 hne).c2
  have c10 := h6.c10
  have f10 := h6.fz 10
  have h10 := h6.s10 (.slice A n cp)
  have hg10 := gb_trans hg6 (gb_setCell _ bw 10 (.slice A n cp))
  have hte : elemT w bw = some 33 := elemT_of h
  have hv10 := hv.gb hg10 (by rw [hte]; decide)
  have het10 : ErrT _ := het.gb hg10 (fun e => by
    unfold ErrT at het
    subst e
    rw [c0] at het; injection het with het; cases het)
  have HI := Lib.hid (is_pow b _ hv10 het10)
  have hlt := hg10.size
  have hltw := lt_of_heap h10
  have H10 := Lib.hid h10
  have HG10 := Lib.hid hg10
  clear hv10 het10 hte hv het
  clear h6 hg6 h10 hg10 hd hg h hr
  go_enter Tryz.func37, Tryz.ntmps37
  go_wp2_with fail
  refine HG.out.mono ?_
  rintro x w1 ⟨rfl, rfl⟩
  go_wp2_with fail
  refine HI.out.mono ?_
  rintro x w1 ⟨rfl, hq⟩
  have H11 := Lib.hid (H10.out.q hq)
  have HG11 := Lib.hid (gb_trans HG10.out (hq.gb (some bw)))
  clear hq
  go_wp2_with fail
  go_ret
  exact ⟨rfl, H11.out, HG11.out⟩
set_option maxHeartbeats 2000000 in
theorem did_ok {w0 : World} {gh : Nat} {d : DskS} {bn : Nat} {H E : Int} (A : Option Addr) (n cp : Nat) (h : WAt w bw bp bd pj pr f size false over rot wa wo) (hd : DAt w0 w bd bp gh d) (hg : d.gone = false) (hr : RJAt w bn H E (.slice A n cp)) :
    Calls Tryz.prog 37 #[.pointer (some ⟨bw, 0, none⟩), .nilIface, .int .i64 0, .pointer (some ⟨bn, 0, none⟩)] w fun x w' => x = .returned (.bool true) ∧ WAt w' bw bp bd pj (.pointer (some ⟨bn, 0, none⟩)) f size false over rot (.slice A n cp) (.slice A n cp) ∧ w.grownBy w' (some bw) := by
  have HG := Lib.hid (Gone_any hd)
  rw [hg] at HG
  have c0 := h.c0
  have c6 := h.c6
  have hne : bn ≠ bw := fun e => by
    subst e
    unfold RJAt WAt at *
    rw [h] at hr; injection hr with hr; injection hr with _ e2 _; revert e2; decide
  have c3 := h.c3
  have f3 := h.fz 3
  have h3 := h.s3 (.pointer (some ⟨bn, 0, none⟩))
  have g3 := gb_setCell w bw 3 (.pointer (some ⟨bn, 0, none⟩))
  have hr3 := hr.gb g3 hne
  have r3 := hr3.c2
  have c9 := h3.c9
  have f9 := h3.fz 9
  have h9 := h3.s9 (.slice A n cp)
  have g9 := gb_setCell (w.setCell ⟨bw, 3, none⟩ (.pointer (some ⟨bn, 0, none⟩))) bw 9 (.slice A n cp)
  have hr9 := hr3.gb g9 hne
  have r9 := hr9.c2
  have c10 := h9.c10
  have f10 := h9.fz 10
  have h10 := h9.s10 (.slice A n cp)
  have g10 := gb_trans (gb_trans g3 g9) (gb_setCell _ bw 10 (.slice A n cp))
  have H10 := Lib.hid h10
  have HG10 := Lib.hid g10
  clear h3 h9 h10 g3 g9 g10 hr3 hr9 hd hg h hr
  go_enter Tryz.func37, Tryz.ntmps37
  go_wp2_with fail
  refine HG.out.mono ?_
  rintro x w1 ⟨rfl, rfl⟩
  go_wp2_with fail
  go_ret
  exact ⟨rfl, H10.out, HG10.out⟩
end
end Go.Proofs.YtcbepjepcabllaaGreatDoor
/- The play's bytes. -/
set_option linter.unusedVariables false
set_option linter.unusedSimpArgs false
namespace Go.Proofs.YtcbepjepcabllaaGreatDoor
open Go Go.RowKit
set_option maxRecDepth 100000 in
set_option maxHeartbeats 2000000 in
theorem bytes_any {w0 w : World} {bw bp bd gh : Nat} {pj pr wa wo : Value} {f half : Nat} {closed over rot : Bool} {d : DskS} (h : WAt w bw bp bd pj pr (f : Int) ((2 * half : Nat) : Int) closed over rot wa wo) (hd : DAt w0 w bd bp gh d) (hdead : d.dead = false) (hn : d.n = 64) (hpl : f + 2 * half ≤ 64) :
    Calls Tryz.prog 68 #[.pointer (some ⟨bw, 0, none⟩)] w fun e w' => e = .returned (.string ⟨(sub d.has (64 * f) (64 * (f + 2 * half))).toArray⟩) ∧ Q w w' := by
  obtain ⟨S, hS⟩ : ∃ S, 2 * half = S := ⟨_, rfl⟩
  rw [hS] at h hpl ⊢
  have k1 : ∀ m : QW w, m.val.cell? ⟨bw, 1, none⟩ = some (.pointer (some ⟨bd, 0, none⟩)) := fun m => m.cell h.c1
  have k4 : ∀ m : QW w, m.val.cell? ⟨bw, 4, none⟩ = some (.int .i64 (f : Int)) := fun m => m.cell h.c4
  have k5 : ∀ m : QW w, m.val.cell? ⟨bw, 5, none⟩ = some (.int .i64 (S : Int)) := fun m => m.cell h.c5
  have HIM := Lib.hid (fun m : QW w => (Image_any (hd.q m.le) hdead : Calls Tryz.prog 18 #[.pointer (some ⟨bd, 0, none⟩)] m.val fun e w' => e = .returned (.string ⟨d.has.toArray⟩) ∧ m.val = w'))
  have hl := hd.ok.len
  rw [hn] at hl
  have b1 : (f : Int) ≤ 64 := by omega
  have b2 : (S : Int) ≤ 64 := by omega
  have t1 : (64 * (f : Int)).toNat = 64 * f := by omega
  have t2 : (64 * ((f : Int) + (S : Int))).toNat = 64 * (f + S) := by omega
  have b3 : 64 * ((f : Int) + (S : Int)) ≤ (d.has.length : Int) := by omega
  have b4 : (d.has.length : Int) ≤ 4096 := by omega
  clear h hd hdead hn hl hS hpl
  go_enter Tryz.func68, Tryz.ntmps68
  go_upto_region 1 with (fail)
  refine wp_region_q (by kernel_rfl) (by kernel_rfl) ?_
  (repeat (go_big_quiet_step ((go_at_call 18; exact calls_qs (HIM.out _)))))
  refine wpQuiet_nil ?_
  rintro wa ⟨ma, hma⟩
  have HQa : Hid (Q w wa) := Lib.hid (by rw [hma]; exact ma.le)
  clear hma ma k1 k4 k5 HIM
  go_wp2_with fail
  go_ret
  exact ⟨rfl, HQa.out⟩
end Go.Proofs.YtcbepjepcabllaaGreatDoor
/- The play's open, where nothing is there any more. -/
set_option linter.unusedVariables false
set_option linter.unusedSimpArgs false
namespace Go.Proofs.YtcbepjepcabllaaGreatDoor
open Go Go.RowKit
set_option maxRecDepth 100000 in
set_option maxHeartbeats 8000000 in
theorem wopen_blank {w0 w : World} {bw bp bd gh : Nat} {pj pr wa wo : Value} {f half : Nat} {closed : Bool} {d : DskS} (h : WAt w bw bp bd pj pr (f : Int) ((2 * half : Nat) : Int) closed false true wa wo) (hd : DAt w0 w bd bp gh d) (hdead : d.dead = false) (hgone : d.gone = false) (hw : d.wait = []) (hn : d.n = 64) (hh : 2 ≤ half) (hpl : f + 2 * half ≤ 64) (he : (openF f half d).epoch = 0) (hbw : w0.heap.size ≤ bw) (hq0 : Q w0 w) :
    Calls Tryz.prog 40 #[.pointer (some ⟨bw, 0, none⟩)] w fun e w' => e = .returned (.bool true) ∧ Q w0 w' ∧ DAt w0 w' bd bp gh d ∧ WAt w' bw bp bd pj pr (f : Int) ((2 * half : Nat) : Int) true true true wa wo := by
  have HB := Lib.hid (bytes_any h hd hdead hn hpl)
  have HWA := Lib.hid h
  have HDA := Lib.hid hd
  have HQ0 := Lib.hid hq0
  have HBW := Lib.hid hbw
  have hlen := hd.ok.len
  obtain ⟨X, hX⟩ : ∃ X, sub d.has (64 * f) (64 * (f + 2 * half)) = X := ⟨_, rfl⟩
  have hXl : X.length = 64 * (2 * half) := by rw [← hX, length_sub]; omega
  have hop : openF f half d = foundOf (sub X 0 (64 * half)) (sub X (64 * half) X.length) half := open_bytes hw f half (by omega) hd.ok X hX.symm
  have HRR := Lib.hid (fun w => RRead_any X half w hXl ⟨hh, by omega⟩)
  rw [← hop] at HRR
  rw [hX] at HB
  have HOP := Lib.hid (fun w' (hq : Q w w') => Open_blank f half (hd.q hq) hh (by omega) (Nat.le_trans hq0.size hq.size) (by rw [hw]; exact Nat.zero_le _) ⟨hgone, hdead⟩ he)
  have HE := Lib.hid he
  obtain ⟨S, hS⟩ : ∃ S, 2 * half = S := ⟨_, rfl⟩
  rw [hS] at HWA HOP ⊢
  clear h hd hdead hgone hw hn hh hpl he hbw hq0 hlen hX hXl hop hS
  go_enter Tryz.func40, Tryz.ntmps40
  go_wp2_with fail
  refine HB.out.mono ?_
  rintro e w1 ⟨rfl, hq1⟩
  have HQ1 := Lib.hid hq1
  clear hq1 HB
  go_wp2_with fail
  refine (HRR.out w1).mono ?_
  rintro e w2 ⟨hrd, hq2⟩
  have hrd2 : e = .returned (.agg (foundC 0 (.slice none 0 0) 0 false)) := by
    rcases hrd with ⟨_, h⟩ | ⟨h, _⟩
    · exact h
    · exact absurd HE.out h
  subst hrd2
  have HQ2 := Lib.hid (HQ1.out.trans hq2)
  clear hrd hq2 HRR HQ1 HE
  go_upto_region 2 with (refine wpList_store_row rfl 107 (.tmp 3) (.tmp 14) (by rfl) w2.heap.size (foundC 0 (.slice none 0 0) 0 false) (by rfl) (by rfl) 107 _ (heap_alloc_new w2 _) (infoF' _ _ _ _) rfl (foundC_one rfl) ?_)
  obtain ⟨G, hG⟩ : ∃ G, w2.heap.size = G := ⟨_, rfl⟩
  have hf6 : FndAt (w2.alloc (.cells (foundC 0 (.slice none 0 0) 0 false) 107)) w2.heap.size 0 (.slice none 0 0) 0 false := (MapKept.heap_alloc w2 _).1
  have hf7 := hf6.row 0 (.slice none 0 0) 0 false
  have hq6 : Q w2 (w2.alloc (.cells (foundC 0 (.slice none 0 0) 0 false) 107)) := (Q.refl _).alloc _
  have hq7 : Q w2 ((w2.alloc (.cells (foundC 0 (.slice none 0 0) 0 false) 107)).setRow w2.heap.size (foundC 0 (.slice none 0 0) 0 false)) := Q.setRow hq6 (Nat.le_refl _) _
  rw [hG] at hf7 hq7 ⊢
  obtain ⟨W7, hW7⟩ : ∃ W, (w2.alloc (.cells (foundC 0 (.slice none 0 0) 0 false) 107)).setRow G (foundC 0 (.slice none 0 0) 0 false) = W := ⟨_, rfl⟩
  have hW7b : (w2.alloc (.cells #[.int .i64 0, .slice none 0 0, .int .i64 0, .bool false] 107)).setRow G (foundC 0 (.slice none 0 0) 0 false) = W7 := hW7
  rw [hW7] at hf7 hq7
  try rw [hW7b]
  try rw [hW7]
  have HF7 := Lib.hid hf7
  have HQ7 := Lib.hid (HQ2.out.trans hq7)
  have HWA7 := Lib.hid (HWA.out.q (HQ2.out.trans hq7))
  clear hf6 hf7 hq6 hq7 hW7 hW7b hG HQ2
  have k1 : ∀ m : QW W7, m.val.cell? ⟨bw, 1, none⟩ = some (.pointer (some ⟨bd, 0, none⟩)) := fun m => m.cell HWA7.out.c1
  have k4 : ∀ m : QW W7, m.val.cell? ⟨bw, 4, none⟩ = some (.int .i64 (f : Int)) := fun m => m.cell HWA7.out.c4
  have k5 : ∀ m : QW W7, m.val.cell? ⟨bw, 5, none⟩ = some (.int .i64 (S : Int)) := fun m => m.cell HWA7.out.c5
  simp only [Act.put]
  refine wp_region_noPanic ?_
  refine wp_plan [([0, 1, 2, 3, 4, 5, 6, 7, 8, 9, 10, 11], [12]), ([13, 14, 15, 16, 17, 18, 19], [])] (by kernel_rfl) (by kernel_rfl) (fun _ _ _ _ _ h => h) ?_
  simp only [wpPlan, wpListK, List.map_cons, List.map_nil, Array.getD_eq_getD_getElem?, List.getElem?_toArray, List.getElem?_cons_succ, List.getElem?_cons_zero, Option.getD_some]
  (repeat (go_big_quiet_step (fail)))
  refine wpQuiet_nil ?_
  clear k1 k4 k5
  obtain ⟨Wd, hWd⟩ : ∃ W, W7.drew = W := ⟨_, rfl⟩
  have hqd : Q W7 Wd := by rw [← hWd]; exact (Q.refl W7).drew
  rw [hWd]
  clear hWd
  intro K hK
  go_wp2_with fail
  refine (HOP.out _ (HQ7.out.trans hqd)).mono ?_
  rintro e w8 ⟨⟨v, rfl, hv⟩, hq8⟩
  have HV := Lib.hid hv
  have HQ8 := Lib.hid (hqd.trans hq8)
  clear hv hqd hq8 HOP
  go_wp2_with fail
  refine hK.out _ _ ⟨⟨_, HQ8.out⟩, rfl⟩ ?_
  clear hK K
  (repeat (go_big_quiet_step (fail)))
  refine wpQuiet_nil ?_
  refine NoPanic.normal ?_
  have hf8 := HF7.out.q HQ8.out
  have e0 := hf8.c0
  have hwa8 := HWA7.out.q HQ8.out
  have c6 := hwa8.c6
  have f6 := hwa8.fz 6
  have hw6 := hwa8.s6 true
  have c7 := hw6.c7
  have f7 := hw6.fz 7
  have hw7 := hw6.s7 true
  have c8 := hw7.c8
  have hg := gb_trans (gb_setCell w8 bw 6 (.bool true)) (gb_setCell _ bw 7 (.bool true))
  have hq8 := HQ7.out.trans HQ8.out
  have hd9 := (HDA.out.q hq8).gb hg (by rw [elemT_of hwa8]; decide)
  have hq9 := gb_q hg (HQ0.out.trans hq8) HBW.out
  have HI := Lib.hid (is_some v 15 w8 HV.out (.inr (.inr (.inl rfl))))
  have HW7 := Lib.hid hw7
  have HD9 := Lib.hid hd9
  have HQ9 := Lib.hid hq9
  clear hf8 hwa8 hw6 hw7 hg hq8 hd9 hq9 HF7 HQ7 HWA7 HQ8 HV HDA HQ0 HWA
  go_wp2_with fail
  refine HI.out.mono ?_
  rintro e wx ⟨rfl, rfl⟩
  go_wp2_with fail
  go_ret
  exact ⟨rfl, HQ9.out, HD9.out, HW7.out⟩
end Go.Proofs.YtcbepjepcabllaaGreatDoor
