/- Texts of this proof, laid into one: UrM, UrH, UrO, UrP, UrI, UrQ, UrR, UrT, SgC, TiedS. -/
import Derived.Test.YtmmoenbmgcplkaaGreatDoorMy07
import Derived.Test.YtmmoenbmgcplkaaGreatDoorRows
import Derived.Test.YtmmoenbmgcplkaaGreatDoorLayS
import Derived.ProofKit
import Derived.LaidMore
import Derived.LaidSub
import Derived.LaidHandle
import Derived.MakeChecks
import Derived.Lay
import GoSem.PinnedTables
import Derived.Lib.LaidU8
import Derived.Lib.LaidTab
import Derived.Lib.LaidCase
import Derived.OpenShut
import Derived.Stop.Joined
set_option linter.unusedVariables false
set_option linter.unusedSimpArgs false
namespace Go.Proofs.YtmmoenbmgcplkaaGreatDoor
open Go Go.RowKit
def BI (w : World) (b : Nat) (v : Int) : Prop := w.heap[b]? = some (.cells #[.int .i64 v] 3 (0, 0))
theorem BI.c {w : World} {b : Nat} {v : Int} (h : BI w b v) : w.cell? ⟨b, 0, none⟩ = some (.int .i64 v) := by rw [cell_of_row _ _ _ _ _ _ h]; rfl
theorem BI.f {w : World} {b : Nat} {v : Int} (h : BI w b v) : w.frozen? ⟨b, 0, none⟩ = false := frozen_of_row w b 0 _ _ h
theorem BI.q {w w' : World} {b : Nat} {v : Int} (h : BI w b v) (hq : Q w w') : BI w' b v := hq.block h
theorem BI.set {w : World} {b : Nat} {v : Int} (h : BI w b v) (x : Int) : BI (w.setCell ⟨b, 0, none⟩ (.int .i64 x)) b x := by
  unfold BI; rw [heap_setCell_any w b 0 _ _ _ _ h]; rfl
theorem BI.other {w : World} {b c : Nat} {v : Int} (h : BI w b v) (hn : b ≠ c) (x : Value) : BI (w.setCell ⟨c, 0, none⟩ x) b v := by
  unfold BI; rw [heap_setCell_other w ⟨c, 0, none⟩ b x hn]; exact h
theorem BI.lt {w : World} {b : Nat} {v : Int} (h : BI w b v) : b < w.heap.size := lt_of_heap h
def badT (t : List UInt8) (at_ bad : Int) : Int := match (decR t).2 with | none => bad | some k => if bad < 0 then at_ + k else bad
theorem decR_pos : ∀ (n : Nat) (l : List UInt8), l.length ≤ n → ∀ k, (decR l).2 = some k → k < l.length := by
  intro n
  induction n with
  | zero => intro l hl k h; rcases l with _ | ⟨x, r⟩
            · simp [decR] at h
            · simp at hl
  | succ n ih =>
    intro l hl k h
    rcases l with _ | ⟨c, r⟩
    · simp [decR] at h
    · by_cases hc : c = 37
      · subst hc
        rcases r with _ | ⟨x, _ | ⟨y, t⟩⟩
        · rw [decR_s1] at h; injection h with h; subst h; simp
        · rw [decR_s2] at h; injection h with h; subst h; simp
        · rw [decR_esc] at h
          split at h
          · injection h with h; subst h; simp
          · rcases hd : (decR t).2 with _ | j
            · rw [hd] at h; cases h
            · rw [hd] at h
              have h : j + 3 = k := by simpa using h
              have := ih t (by simp at hl; omega) j hd
              simp; omega
      · rw [decR_plain _ _ hc] at h
        rcases hd : (decR r).2 with _ | j
        · simp only [hd] at h; cases h
        · rw [hd] at h
          have h : j + 1 = k := by simpa using h
          have := ih r (by simp at hl; omega) j hd
          simp; omega
theorem decR_lt {l : List UInt8} {k : Nat} (h : (decR l).2 = some k) : k < l.length := decR_pos l.length l (Nat.le_refl _) k h
set_option maxRecDepth 100000 in
set_option maxHeartbeats 2000000 in
theorem Target1_any (t : List UInt8) (b8 b9 : Nat) (at_ bad : Int) (w : World) (h8 : BI w b8 at_) (h9 : BI w b9 bad) (hne : b8 ≠ b9) (hl : t.length ≤ 100000000) (ha : 0 ≤ at_) (ha2 : at_ ≤ 1000000000) (hb : -1 ≤ bad) (hb2 : bad ≤ 1000000000) :
    Calls Tryz.prog 105 #[.string ⟨t.toArray⟩, .pointer (some ⟨b9, 0, none⟩), .pointer (some ⟨b8, 0, none⟩)] w fun e w' =>
      e = .returned (.string ⟨(decOut t).1.toArray⟩) ∧ BI w' b8 (at_ + (t.length + 1)) ∧ BI w' b9 (badT t at_ bad) ∧ GX [b8, b9] w w' := by
  rcases hr : (decR t).2 with _ | k
  · have ho : decOut t = ((decR t).1, 0, 0) := by unfold decOut; rw [hr]
    have hbt : badT t at_ bad = bad := by unfold badT; rw [hr]
    rw [ho, hbt]
    go_enter Tryz.func105, Tryz.ntmps105
    go_wp2_with fail
    refine (Decode_any t _ hl).mono ?_
    rintro e w1 ⟨rfl, hq⟩
    rw [ho]
    have k8 := h8.q hq
    have k9 := h9.q hq
    have c8 := k8.c
    have f8 := k8.f
    have HQ := Lib.hid hq
    clear hq
    go_wp2_with fail
    go_ret
    refine ⟨rfl, k8.set _, k9.other (fun e => hne e.symm) _, GX.set (GX.q HQ.out) (by simp) _ _⟩
  · have hk := decR_lt hr
    have ho : decOut t = ([], 52, k) := by unfold decOut; rw [hr]
    by_cases hbn : bad < 0
    · have hbt : badT t at_ bad = at_ + k := by unfold badT; rw [hr]; simp [hbn]
      rw [ho, hbt]
      go_enter Tryz.func105, Tryz.ntmps105
      go_wp2_with fail
      refine (Decode_any t _ hl).mono ?_
      rintro e w1 ⟨rfl, hq⟩
      rw [ho]
      have k8 := h8.q hq
      have k9 := h9.q hq
      have c8 := k8.c
      have f8 := k8.f
      have c9 := k9.c
      have f9 := k9.f
      have m8 := k8.other hne (.int .i64 (at_ + k))
      have c8' := m8.c
      have f8' := m8.f
      have HQ := Lib.hid hq
      clear hq
      go_wp2_with fail
      go_ret
      refine ⟨rfl, m8.set _, (k9.set _).other (fun e => hne e.symm) _, GX.set (GX.set (GX.q HQ.out) (by simp) _ _) (by simp) _ _⟩
    · have hbt : badT t at_ bad = bad := by unfold badT; rw [hr]; simp [hbn]
      rw [ho, hbt]
      go_enter Tryz.func105, Tryz.ntmps105
      go_wp2_with fail
      refine (Decode_any t _ hl).mono ?_
      rintro e w1 ⟨rfl, hq⟩
      rw [ho]
      have k8 := h8.q hq
      have k9 := h9.q hq
      have c8 := k8.c
      have f8 := k8.f
      have c9 := k9.c
      have HQ := Lib.hid hq
      clear hq
      go_wp2_with fail
      go_ret
      refine ⟨rfl, k8.set _, k9.other (fun e => hne e.symm) _, GX.set (GX.q HQ.out) (by simp) _ _⟩
end Go.Proofs.YtmmoenbmgcplkaaGreatDoor
set_option linter.unusedVariables false
set_option linter.unusedSimpArgs false
namespace Go.Proofs.YtmmoenbmgcplkaaGreatDoor
open Go Go.RowKit
theorem split_any (l : List UInt8) (c : UInt8) (w : World) (h : MaxL w) (hs : l.length < 4294967281) :
    Calls Tryz.prog 108 #[.string ⟨l.toArray⟩, .string ⟨#[c]⟩] w fun e w' => e = .returned (.slice (some ⟨w.heap.size, 0, none⟩) (splitC c l).length (splitC c l).length) ∧ StrsAt w' (some ⟨w.heap.size, 0, none⟩) (splitC c l).length (splitC c l) ∧ Q w w' := by
  obtain ⟨m, hm⟩ := h
  refine (Tryz.strings_Split ⟨l.toArray⟩ ⟨#[c]⟩ m w hs hm (by show 1 ≤ 1; omega)).mono ?_
  rintro e w' ⟨rfl, rfl⟩
  have hk : Lib.countB ⟨l.toArray⟩ ⟨#[c]⟩ + 1 = (splitC c l).length := by rw [splitC_count]; exact congrArg (· + 1) (Lib.count_one c l)
  rw [splitB_one, hk]
  exact ⟨rfl, StrsAt_new w _ _, (Q.refl w).alloc _⟩
def smallB (b : UInt8) : Bool := 97 ≤ b.toNat && b.toNat ≤ 122
def tenB (b : UInt8) : Bool := 48 ≤ b.toNat && b.toNat ≤ 57
def chrOk (b : UInt8) : Bool := smallB b || tenB b || b == 45
end Go.Proofs.YtmmoenbmgcplkaaGreatDoor
set_option linter.unusedVariables false
set_option linter.unusedSimpArgs false
namespace Go.Proofs.YtmmoenbmgcplkaaGreatDoor
open Go Go.RowKit
def badC (b : UInt8) : Bool := decide (b.toNat ≤ 32) || decide (126 < b.toNat) || b == 35
structure TSt where
  ps : List PairD
  at_ : Int
  bad : Int
def stepT (st : TSt) (part : List UInt8) : TSt :=
  if part = [] then ⟨st.ps, st.at_ + 1, st.bad⟩
  else if (cutB 61 part).2.2 then
    ⟨st.ps ++ [((decOut (cutB 61 part).1).1, (decOut (cutB 61 part).2.1).1)], st.at_ + ((cutB 61 part).1.length + 1) + ((cutB 61 part).2.1.length + 1), badT (cutB 61 part).2.1 (st.at_ + ((cutB 61 part).1.length + 1)) (badT (cutB 61 part).1 st.at_ st.bad)⟩
  else ⟨st.ps ++ [((decOut (cutB 61 part).1).1, [])], st.at_ + ((cutB 61 part).1.length + 1), badT (cutB 61 part).1 st.at_ st.bad⟩
def startT (p : List UInt8) : TSt := ⟨[], (p.length : Int) + 1, badT p 0 (-1)⟩
def runT (s : List UInt8) : TSt := (splitC 38 (cutB 63 s).2.1).foldl stepT (startT (cutB 63 s).1)
def tgtL (s : List UInt8) : List UInt8 × List PairD × Nat × Int :=
  if s.head? = some 47 then
    match s.findIdx? badC with
    | some i => ([], [], 53, (i : Int))
    | none => if 0 ≤ (runT s).bad then ([], [], 52, (runT s).bad) else ((decOut (cutB 63 s).1).1, (runT s).ps, 0, 0)
  else ([], [], 53, 0)
def sumU (ls : List (List UInt8)) : Nat := (ls.map fun l => l.length + 1).sum
theorem cutB_len (c : UInt8) (l : List UInt8) : ((cutB c l).2.2 = true → (cutB c l).1.length + 1 + (cutB c l).2.1.length = l.length) ∧ ((cutB c l).2.2 = false → (cutB c l).1 = l ∧ (cutB c l).2.1 = []) := by
  induction l with
  | nil => simp [cutB]
  | cons x r ih =>
    unfold cutB
    split
    · simp; omega
    · constructor
      · intro h; have := ih.1 h; simp; omega
      · intro h; have := ih.2 h; exact ⟨by simp [this.1], this.2⟩
theorem cutB_le (c : UInt8) (l : List UInt8) : (cutB c l).1.length + (cutB c l).2.1.length ≤ l.length := by
  have h := cutB_len c l
  rcases hb : (cutB c l).2.2 with _ | _
  · have := h.2 hb; rw [this.1, this.2]; simp
  · have := h.1 hb; omega
theorem stepT_at (st : TSt) (part : List UInt8) : (stepT st part).at_ = st.at_ + (part.length + 1) := by
  unfold stepT
  have h := cutB_len 61 part
  by_cases he : part = []
  · subst he; simp
  · rw [if_neg he]
    rcases hb : (cutB 61 part).2.2 with _ | _
    · have := (h.2 hb).1; simp [this]
    · have := h.1 hb; simp only [if_true]; omega
theorem badT_bd (t : List UInt8) (a b : Int) (h0 : 0 ≤ a) (h1 : -1 ≤ b) (h2 : b ≤ a) : -1 ≤ badT t a b ∧ badT t a b ≤ a + (t.length + 1) := by
  unfold badT
  rcases hr : (decR t).2 with _ | k
  · simp only; omega
  · have := decR_lt hr
    simp only
    split <;> omega
theorem stepT_bad (st : TSt) (part : List UInt8) (h0 : 0 ≤ st.at_) (h1 : -1 ≤ st.bad) (h2 : st.bad ≤ st.at_) : -1 ≤ (stepT st part).bad ∧ (stepT st part).bad ≤ (stepT st part).at_ := by
  unfold stepT
  by_cases he : part = []
  · rw [if_pos he]; simp only; omega
  · rw [if_neg he]
    have b1 := badT_bd (cutB 61 part).1 st.at_ st.bad h0 h1 h2
    rcases hb : (cutB 61 part).2.2 with _ | _
    · simp only [Bool.false_eq_true, if_false]; omega
    · simp only [if_true]
      have b2 := badT_bd (cutB 61 part).2.1 (st.at_ + ((cutB 61 part).1.length + 1)) _ (by omega) b1.1 b1.2
      omega
theorem foldT (ls : List (List UInt8)) : ∀ st : TSt, 0 ≤ st.at_ → -1 ≤ st.bad → st.bad ≤ st.at_ →
    (ls.foldl stepT st).at_ = st.at_ + sumU ls ∧ -1 ≤ (ls.foldl stepT st).bad ∧ (ls.foldl stepT st).bad ≤ (ls.foldl stepT st).at_ := by
  induction ls with
  | nil => intro st h0 h1 h2; simp [sumU]; omega
  | cons l r ih =>
    intro st h0 h1 h2
    have a := stepT_at st l
    have b := stepT_bad st l h0 h1 h2
    have := ih (stepT st l) (by omega) b.1 b.2
    simp only [List.foldl_cons, sumU, List.map_cons, List.sum_cons] at *
    omega
theorem sumU_take (ls : List (List UInt8)) (k : Nat) : sumU (ls.take k) ≤ sumU ls := by
  have : ls = ls.take k ++ ls.drop k := (List.take_append_drop k ls).symm
  have h : sumU ls = sumU (ls.take k) + sumU (ls.drop k) := by
    conv => lhs; rw [this]
    unfold sumU; rw [List.map_append, List.sum_append]
  omega
theorem len_sumU (ls : List (List UInt8)) : ls.length ≤ sumU ls := by
  induction ls with
  | nil => simp
  | cons a r ih => simp only [sumU, List.map_cons, List.sum_cons, List.length_cons] at *; omega
theorem part_sumU (ls : List (List UInt8)) : ∀ k, k < ls.length → (gL ls k).length + 1 ≤ sumU ls := by
  induction ls with
  | nil => intro k h; simp at h
  | cons a r ih =>
    intro k h
    rcases k with _ | k
    · simp [sumU, gL]
    · have := ih k (by simpa using h)
      have e : gL (a :: r) (k + 1) = gL r k := by simp [gL]
      rw [e]
      simp only [sumU, List.map_cons, List.sum_cons] at *; omega
theorem sumU_split (c : UInt8) (l : List UInt8) : sumU (splitC c l) = l.length + 1 := by
  induction l with
  | nil => simp [splitC, sumU]
  | cons x r ih =>
    unfold splitC
    split
    · unfold sumU at *; simp at *; omega
    · rcases hs : splitC c r with _ | ⟨h, t⟩
      · exact absurd hs (splitC_ne c r)
      · rw [hs] at ih; unfold sumU at *; simp at *; omega
theorem fold_snoc (ls : List (List UInt8)) (k : Nat) (h : k < ls.length) (st : TSt) : (ls.take (k + 1)).foldl stepT st = stepT ((ls.take k).foldl stepT st) (gL ls k) := by
  have e : gL ls k = ls[k] := by simp [gL, List.getD, h]
  rw [List.take_add_one, List.getElem?_eq_getElem h, List.foldl_append, e]; simp
theorem fold_len (ls : List (List UInt8)) : ∀ st : TSt, (ls.foldl stepT st).ps.length ≤ st.ps.length + ls.length := by
  induction ls with
  | nil => intro st; simp
  | cons l r ih =>
    intro st
    have := ih (stepT st l)
    have h2 : (stepT st l).ps.length ≤ st.ps.length + 1 := by
      unfold stepT; split
      · simp
      · split <;> simp
    simp only [List.foldl_cons, List.length_cons]; omega
theorem OwnU.x {w0 w w' : World} {v : Value} {l : List PairD} {S : List Nat} (h : OwnU w0 w v l) (hg : GX S w w') (hS : ∀ k ∈ S, k < w0.heap.size) : OwnU w0 w' v l := by
  refine ⟨h.1, ?_⟩
  rcases h.2 with h2 | ⟨g, cap, cur, hv, h1, h2, h3⟩
  · exact .inl h2
  · exact .inr ⟨g, cap, cur, hv, h1, hg.heap (fun hm => by have := hS g hm; omega) h2, h3⟩
theorem StrsAt.x {w w' : World} {N n : Nat} {ls : List (List UInt8)} {S : List Nat} (h : StrsAt w (some ⟨N, 0, none⟩) n ls) (hg : GX S w w') (hN : N ∉ S) : StrsAt w' (some ⟨N, 0, none⟩) n ls := by
  refine ⟨h.1, fun h0 => ?_⟩
  obtain ⟨ad, e, hc⟩ := h.2 h0
  refine ⟨ad, e, fun i hi => ?_⟩
  have := hc i hi
  injection e with e
  subst e
  rw [add_off] at this ⊢
  unfold World.cell? at this ⊢
  have hlt : N < w.heap.size := by
    rcases Nat.lt_or_ge N w.heap.size with h' | h'
    · exact h'
    · simp only [Array.getElem?_eq_none h'] at this; cases this
  rw [show (⟨N, 0 + i, none⟩ : Addr).block = N from rfl] at this ⊢
  rw [hg.block N hlt hN]; exact this
theorem find_take (l : List UInt8) (k : Nat) (h : k < l.length) (h1 : ∀ j, j < k → badC (gB l j) = false) (hb : badC (gB l k) = true) : l.findIdx? badC = some k := by
  rw [List.findIdx?_eq_some_iff_getElem]
  refine ⟨h, ?_, fun j hj => ?_⟩
  · have : gB l k = l[k] := by simp [gB, List.getD, h]
    rw [← this]; exact hb
  · have hj' : j < l.length := by omega
    have : gB l j = l[j] := by simp [gB, List.getD, hj']
    rw [← this, h1 j hj]; simp
theorem find_none (l : List UInt8) (h1 : ∀ j, j < l.length → badC (gB l j) = false) : l.findIdx? badC = none := by
  rw [List.findIdx?_eq_none_iff]
  intro x hx
  obtain ⟨j, hj, rfl⟩ := List.mem_iff_getElem.1 hx
  have : gB l j = l[j] := by simp [gB, List.getD, hj]
  rw [← this]; exact h1 j hj
end Go.Proofs.YtmmoenbmgcplkaaGreatDoor
set_option linter.unusedVariables false
set_option linter.unusedSimpArgs false
namespace Go.Proofs.YtmmoenbmgcplkaaGreatDoor
open Go Go.RowKit
theorem results_tmp4 {fn : Func} {t u v x : Tmp} (h : fn.results = #[.tmp t, .tmp u, .tmp v, .tmp x]) (tmps : Array Value) (P : Program) (w : World) :
    (results fn tmps).run P w = .ok (.tuple #[tmps.getD t undef, tmps.getD u undef, tmps.getD v undef, tmps.getD x undef]) w := by
  simp [results, h]
def TgtPost (s : List UInt8) (w : World) (e : Ending) (w' : World) : Prop :=
  ∃ v, e = .returned (.tuple #[.string ⟨(tgtL s).1.toArray⟩, v, .int .i64 ((tgtL s).2.2.1 : Nat), .int .i64 (tgtL s).2.2.2]) ∧ OwnU w w' v (tgtL s).2.1 ∧ Q w w'
theorem gx_app {w5 w8 w9 : World} {v : Value} {sp : List PairD} {a b : Nat} {x y : Int} (ho : OwnU w5 w8 v sp) (ha : a < w5.heap.size) (hb : b < w5.heap.size) (k8 : BI w8 a x) (k9 : BI w8 b y) (hg : GX [a, b] w5 w8) (h : w8.grownBy w9 v.ownBlock) :
    BI w9 a x ∧ BI w9 b y ∧ GX [a, b] w5 w9 := by
  have ne : ∀ k, k < w5.heap.size → v.ownBlock ≠ some k := fun k hk e => by have := (ho.block e).1; omega
  refine ⟨?_, ?_, ?_⟩
  · unfold BI; rw [h.block a k8.lt (fun e => ne a ha e.symm)]; exact k8
  · unfold BI; rw [h.block b k9.lt (fun e => ne b hb e.symm)]; exact k9
  · exact ⟨h.os.trans hg.os, h.tape.trans hg.tape, h.output.trans hg.output, Nat.le_trans hg.size h.size, fun k hk hn => (h.block k (Nat.lt_of_lt_of_le hk hg.size) (fun e => ne k hk e.symm)).trans (hg.block k hk hn)⟩
theorem gx_new {S : List Nat} {a b : World} (h : GX S a b) {g : Nat} (hg : a.heap.size ≤ g) (i : Nat) (v : Value) : GX S a (b.setCell ⟨g, i, none⟩ v) :=
  ⟨h.os, h.tape, h.output, by simpa using h.size, fun k hk hr => by
    rw [heap_setCell_other b ⟨g, i, none⟩ k v (by intro e; have : k = g := e; omega)]; exact h.block k hk hr⟩
theorem PB.set1 {w : World} {b : Nat} {x y : List UInt8} (h : PB w b (x, [])) : PB (w.setCell ⟨b, 1, none⟩ (.string ⟨y.toArray⟩)) b (x, y) := by
  unfold PB; rw [heap_setCell_any w b 1 _ _ _ _ h]; rfl
theorem PB.f {w : World} {b i : Nat} {p : PairD} (h : PB w b p) : w.frozen? ⟨b, i, none⟩ = false := frozen_of_row w b i _ _ h
set_option maxRecDepth 100000 in
set_option maxHeartbeats 4000000 in
theorem Target_any (s : List UInt8) (w : World) (h : U13 w) (hl : s.length ≤ 100000000) :
    Calls Tryz.prog 65 #[.string ⟨s.toArray⟩] w (TgtPost s w) := by
  have HU := Lib.hid h
  clear h
  have hpre : Lib.hasPrefix s [47] = decide (s.head? = some 47) := by
    rcases s with _ | ⟨x, r⟩
    · rfl
    · by_cases hx : x = 47
      · subst hx; simp [Lib.hasPrefix, List.isPrefixOf]
      · have hx' : ¬ 47 = x := fun e => hx e.symm
        simp [Lib.hasPrefix, List.isPrefixOf, hx, hx']
  have HPre : Hid (∀ W, Calls Tryz.prog 104 #[.string ⟨s.toArray⟩, .string ⟨#[47]⟩] W fun e w' => e = .returned (.bool (decide (s.head? = some 47))) ∧ w' = W) := Lib.hid (fun W => by
    rw [← hpre]; exact Tryz.strings_HasPrefix ⟨s.toArray⟩ ⟨#[47]⟩ W)
  clear hpre
  by_cases hh : s.head? = some 47
  case neg =>
    have HT : Hid (tgtL s = ([], [], 53, 0)) := Lib.hid (by unfold tgtL; rw [if_neg hh])
    go_enter Tryz.func65, Tryz.ntmps65
    go_wp2_with fail
    refine (HPre.out _).mono ?_
    rintro e w1 ⟨rfl, rfl⟩
    rw [decide_eq_false hh]
    go_wp2_with fail
    ((try simp only [Exit.inBlock, Exit.then]); refine bodyPost_ret (results_tmp4 rfl _ _ _) rfl ?_)
    unfold TgtPost
    rw [HT.out]
    exact ⟨.slice none 0 0, rfl, OwnU.nil _ _, Q.refl _⟩
  case pos =>
    obtain ⟨v, w1, hcv, hown, hq1, cap, hv⟩ := bytes_of s w (by omega)
    rw [hv] at hcv hown
    have HOW := Lib.hid hown
    have HQ1 := Lib.hid hq1
    clear hown hq1 hv
    go_enter Tryz.func65, Tryz.ntmps65
    go_wp2_with fail
    refine (HPre.out _).mono ?_
    rintro e w2 ⟨rfl, rfl⟩
    rw [decide_eq_true hh]
    go_wp2_with fail
    clear hcv HPre
    go_loopw [27] (fun i wr => ∃ k : Nat, k ≤ s.length ∧ i = .int .i64 (k : Int) ∧ Hid (∀ j, j < k → badC (gB s j) = false) ∧ wr = w1) (fun i _ => s.length - (intOf i).toNat)
    case atStart => exact ⟨0, by omega, rfl, Lib.hid (fun j h => by omega), rfl⟩
    case round =>
      obtain ⟨k, hk, rfl, HA, rfl⟩ := hrel
      by_cases hlt : k < s.length
      · have g1 : decide (k < s.length) = true := by simpa using hlt
        obtain ⟨g, cc, hv, _, _, _, hcell⟩ := HOW.out.pos (by omega)
        cases hv
        have cx := (hcell k hlt).1
        clear hcell
        rcases hb : badC (gB s k) with _ | _
        · have HA2 : Hid (∀ j, j < k + 1 → badC (gB s j) = false) := Lib.hid (fun j hj => by
            by_cases e : j = k
            · subst e; exact hb
            · exact HA.out j (by omega))
          obtain ⟨b, hgb⟩ : ∃ b, gB s k = b := ⟨_, rfl⟩
          rw [hgb] at hb cx
          unfold badC at hb
          simp only [Bool.or_eq_false_iff, decide_eq_false_iff_not, beq_eq_false_iff_ne] at hb
          obtain ⟨⟨b1, b2⟩, b3⟩ := hb
          have b1' : ¬ ((b.toNat : Int) ≤ 32) := by omega
          have b2' : ¬ ((126 : Int) < (b.toNat : Int)) := by omega
          have b3' : ¬ (b.toNat : Int) = 35 := fun h => b3 (UInt8.toNat_inj.mp (show b.toNat = 35 by omega))
          have b3e : ((b.toNat : Int) == 35) = false := by simpa using b3'
          go_wp2_with fail
          go_roundw
          case rel => exact ⟨k + 1, by omega, by go_num, HA2, trivial⟩
          case measure => simp [intOf]; omega
        · have HF : Hid (tgtL s = ([], [], 53, (k : Int))) := Lib.hid (by unfold tgtL; rw [if_pos hh, find_take s k hlt HA.out hb])
          obtain ⟨b, hgb⟩ : ∃ b, gB s k = b := ⟨_, rfl⟩
          rw [hgb] at hb cx
          have hc : (b.toNat : Int) ≤ 32 ∨ (¬ (b.toNat : Int) ≤ 32 ∧ (126 : Int) < (b.toNat : Int)) ∨ (¬ (b.toNat : Int) ≤ 32 ∧ ¬ (126 : Int) < (b.toNat : Int) ∧ (b.toNat : Int) = 35) := by
            unfold badC at hb
            simp only [Bool.or_eq_true, decide_eq_true_eq, beq_iff_eq] at hb
            rcases hb with (h | h) | h
            · left; omega
            · right; left; omega
            · right; right; subst h; decide
          clear hb
          have hz : s.length ≠ 0 := by omega
          rcases hc with hc | ⟨h1, hc⟩ | ⟨h1, h2, hc⟩
          all_goals
            go_wp2_with fail
            all_goals
              ((try simp only [Exit.inBlock, Exit.then]); refine bodyPost_ret (results_tmp4 rfl _ _ _) rfl ?_)
              unfold TgtPost
              rw [HF.out]
              exact ⟨.slice none 0 0, rfl, OwnU.nil _ _, HQ1.out⟩
      · obtain rfl : k = s.length := by omega
        have HN : Hid (s.findIdx? badC = none) := Lib.hid (find_none s HA.out)
        clear HA hlt hk HOW
        go_upto_region 12 with (fail)
        obtain ⟨W2, hW2⟩ : ∃ W, (wr.alloc (Obj.cells #[Value.int IntKind.i64 0] 3)).alloc (Obj.cells #[Value.int IntKind.i64 (-1)] 3) = W := ⟨_, rfl⟩
        have k8 : BI W2 wr.heap.size 0 := by rw [← hW2]; exact ((Q.refl _).alloc _).block (heap_alloc_new wr _)
        have k9 : BI W2 (wr.heap.size + 1) (-1) := by
          rw [← hW2]
          have := heap_alloc_new (wr.alloc (Obj.cells #[Value.int IntKind.i64 0] 3)) (Obj.cells #[Value.int IntKind.i64 (-1)] 3)
          rwa [World.size_alloc] at this
        have hq2 : Q w2 W2 := by rw [← hW2]; exact (HQ1.out.alloc _).alloc _
        have hN8 : w2.heap.size ≤ wr.heap.size := HQ1.out.size
        rw [hW2]
        clear hW2 HQ1
        generalize wr.heap.size = N8 at k8 k9 hN8 ⊢
        have HQ2 := Lib.hid hq2
        have HRun : Hid (∃ p q f, cutB 63 s = (p, q, f)) := Lib.hid ⟨_, _, _, rfl⟩
        obtain ⟨p, q, f, hpq⟩ := HRun.out
        have hlen : p.length + q.length ≤ s.length := by have := cutB_le 63 s; rw [hpq] at this; exact this
        have HR : Hid (runT s = (splitC 38 q).foldl stepT (startT p)) := Lib.hid (by unfold runT; rw [hpq])
        have HPQ := Lib.hid hpq
        clear HRun hpq hq2
        go_wp2_with fail
        refine (cut_any s 63 _ (HU.out.q HQ2.out).ml (by omega)).mono ?_
        rintro e W3 ⟨rfl, hq3⟩
        rw [HPQ.out]
        have k8 := k8.q hq3
        have k9 := k9.q hq3
        have HQ3 := Lib.hid (HQ2.out.trans hq3)
        clear hq3 HQ2
        go_wp2_with fail
        refine (Target1_any p N8 (N8 + 1) 0 (-1) W3 k8 k9 (by omega) (by omega) (by omega) (by omega) (by omega) (by omega)).mono ?_
        rintro e W4 ⟨rfl, k8, k9, hg4⟩
        have HQ4 := Lib.hid (hg4.toQ HQ3.out (by intro k hk; simp at hk; omega))
        have hN5 := k9.lt
        rw [show (0 : Int) + ((p.length : Int) + 1) = (startT p).at_ by simp [startT]] at k8
        rw [show badT p 0 (-1) = (startT p).bad from rfl] at k9
        clear hg4 HQ3
        obtain ⟨PD, hPD⟩ : ∃ PD, (decOut p).1 = PD := ⟨_, rfl⟩
        rw [hPD]
        have HPD := Lib.hid hPD
        clear hPD
        go_wp2_with fail
        refine (split_any q 38 _ (HU.out.q HQ4.out).ml (by omega)).mono ?_
        rintro e W5 ⟨rfl, hst, hq5⟩
        have k8 := k8.q hq5
        have k9 := k9.q hq5
        have hN5b := k9.lt
        have HQ5 := Lib.hid (HQ4.out.trans hq5)
        clear hq5 HQ4
        have HSM := Lib.hid (sumU_split 38 q)
        obtain ⟨ls, hls⟩ : ∃ ls, splitC 38 q = ls := ⟨_, rfl⟩
        rw [hls] at hst HR HSM ⊢
        have HST := Lib.hid hst
        generalize W4.heap.size = NS at hN5 HST ⊢
        clear hst hls
        go_wp2_with fail
        have hz0 : (0 : Int) ≤ (startT p).at_ ∧ -1 ≤ (startT p).bad ∧ (startT p).bad ≤ (startT p).at_ ∧ (startT p).at_ = (p.length : Int) + 1 := by
          have hb := badT_bd p 0 (-1) (by omega) (by omega) (by omega)
          have e1 : (startT p).at_ = (p.length : Int) + 1 := rfl
          have e2 : (startT p).bad = badT p 0 (-1) := rfl
          rw [e1, e2]; omega
        have HFold : Hid (∀ k, -1 ≤ ((ls.take k).foldl stepT (startT p)).bad ∧ ((ls.take k).foldl stepT (startT p)).bad ≤ ((ls.take k).foldl stepT (startT p)).at_ ∧ 0 ≤ ((ls.take k).foldl stepT (startT p)).at_ ∧ ((ls.take k).foldl stepT (startT p)).at_ ≤ 200000010) := Lib.hid (fun k => by
          have := foldT (ls.take k) (startT p) hz0.1 hz0.2.1 hz0.2.2.1
          have h2 := sumU_take ls k
          have h3 := HSM.out
          omega)
        have HLen : Hid (ls.length ≤ s.length + 1) := Lib.hid (by
          have := len_sumU ls
          have h3 := HSM.out; omega)
        have HPsl : Hid (∀ k, ((ls.take k).foldl stepT (startT p)).ps.length ≤ 200000010) := Lib.hid (fun k => by
          have := fold_len (ls.take k) (startT p)
          have h0 : (startT p).ps.length = 0 := rfl
          have h2 := HLen.out
          have h3 : (ls.take k).length ≤ ls.length := by rw [List.length_take]; omega
          omega)
        have HPart : Hid (∀ k, k < ls.length → (gL ls k).length ≤ 100000000) := Lib.hid (fun k hk => by
          have h1 := part_sumU ls k hk
          have h3 := HSM.out
          omega)
        clear hz0
        go_loopw [14, 57] (fun v i wr => ∃ k : Nat, k ≤ ls.length ∧ i = .int .i64 (k : Int) ∧ Hid (OwnU W5 wr v ((ls.take k).foldl stepT (startT p)).ps) ∧ Hid (BI wr N8 ((ls.take k).foldl stepT (startT p)).at_) ∧ Hid (BI wr (N8 + 1) ((ls.take k).foldl stepT (startT p)).bad) ∧ Hid (GX [N8, N8 + 1] W5 wr)) (fun _ i _ => ls.length - (intOf i).toNat)
        case atStart => exact ⟨0, by omega, rfl, Lib.hid (OwnU.nil _ _), Lib.hid k8, Lib.hid k9, Lib.hid (GX.refl _ _)⟩
        case round =>
          clear k8 k9
          obtain ⟨k, hk, rfl, HO, H8, H9, HG⟩ := hrel
          by_cases hlt : k < ls.length
          · have g1 : decide (k < ls.length) = true := by simpa using hlt
            have hstx := HST.out.x HG.out (by simp; omega)
            obtain ⟨ad, hada, hc⟩ := hstx.at hlt
            cases hada
            rw [add_off, Nat.zero_add] at hc
            have HSN := Lib.hid (fold_snoc ls k hlt (startT p))
            obtain ⟨pt, hpt⟩ : ∃ pt, gL ls k = pt := ⟨_, rfl⟩
            have hptl := HPart.out k hlt
            rw [hpt] at hc HSN hptl
            obtain ⟨⟨sp, sa, sb⟩, hst⟩ : ∃ st, (ls.take k).foldl stepT (startT p) = st := ⟨_, rfl⟩
            have hbd := HFold.out k
            have HPL := Lib.hid (HPsl.out k)
            rw [hst] at HO H8 H9 HSN hbd HPL
            simp only at hbd
            obtain ⟨b1, b2, b3, b4⟩ := hbd
            have hkb : k ≤ 100000001 := by have := HLen.out; omega
            clear hst hstx
            by_cases he : pt = []
            · subst he
              have c8 := H8.out.c
              have f8 := H8.out.f
              simp only at c8
              go_wp2_with fail
              have HS1 : Hid (stepT ⟨sp, sa, sb⟩ [] = ⟨sp, sa + 1, sb⟩) := Lib.hid (by unfold stepT; rw [if_pos rfl])
              rw [HS1.out] at HSN
              have hne8 : N8 + 1 ≠ N8 := by omega
              refine ⟨⟨k + 1, by omega, by go_num, Lib.hid ?_, Lib.hid ?_, Lib.hid ?_, Lib.hid ?_⟩, by simp [intOf]; omega⟩
              · rw [HSN.out]; exact HO.out.x (GX.set (GX.refl [N8, N8 + 1] wr) (by simp) _ _) (by intro y hy; simp at hy; omega)
              · rw [HSN.out]; exact H8.out.set _
              · rw [HSN.out]; exact H9.out.other hne8 _
              · exact GX.set HG.out (by simp) _ _
            · have he2 : pt.isEmpty = false := by simpa using he
              have HCL := Lib.hid (cutB_len 61 pt)
              have HCE := Lib.hid (cutB_le 61 pt)
              obtain ⟨nm, vl, f, hnv⟩ : ∃ nm vl f, cutB 61 pt = (nm, vl, f) := ⟨_, _, _, rfl⟩
              have hstep : stepT ⟨sp, sa, sb⟩ pt = if f = true then ⟨sp ++ [((decOut nm).1, (decOut vl).1)], sa + (nm.length + 1) + (vl.length + 1), badT vl (sa + (nm.length + 1)) (badT nm sa sb)⟩ else ⟨sp ++ [((decOut nm).1, [])], sa + (nm.length + 1), badT nm sa sb⟩ := by
                unfold stepT; rw [if_neg he, hnv]
              rw [hstep] at HSN
              rw [hnv] at HCE HCL
              have hnl := HCE.out
              simp only at hnl
              have HNV := Lib.hid hnv
              clear hstep hnv
              go_wp2_with fail
              refine (cut_any pt 61 _ (HU.out.q (HG.out.toQ HQ5.out (by intro y hy; simp at hy; omega))).ml (by omega)).mono ?_
              rintro e W6 ⟨rfl, hq6⟩
              rw [HNV.out]
              have HO6 := Lib.hid (HO.out.q hq6)
              have H86 := Lib.hid (H8.out.q hq6)
              have H96 := Lib.hid (H9.out.q hq6)
              have HG6 := Lib.hid (HG.out.trans (GX.q hq6))
              clear hq6 HO H8 H9 HG hc
              go_upto_region 22 with (first
                | (go_at_call 105; refine (Target1_any nm N8 (N8 + 1) sa sb W6 H86.out H96.out (by omega) (by omega) (by omega) (by omega) (by omega) (by omega)).mono ?_; rintro e W7 ⟨rfl, k8, k9, hg7⟩)
                | (refine wpList_store_row rfl 37 _ _ rfl W7.heap.size (pairL ((decOut nm).1, [])).toArray (by rfl) (by rfl) 37 _ (heap_alloc_new W7 _) infoP rfl (pairL_one _) ?_))
              obtain ⟨hpb, hq8⟩ := PB.make W7 ((decOut nm).1, [])
              obtain ⟨WX, hWX⟩ : ∃ W, (W7.alloc (.cells (pairL ([], [])).toArray 37)).setRow W7.heap.size (pairL ((decOut nm).1, [])).toArray = W := ⟨_, rfl⟩
              rw [hWX] at hpb hq8
              have hWX2 : (W7.alloc (.cells #[.string ⟨#[]⟩, .string ⟨#[]⟩] 37)).setRow W7.heap.size (pairL ((decOut nm).1, [])).toArray = WX := hWX
              rw [hWX2]
              have HOX := Lib.hid (((HO6.out).x hg7 (by intro y hy; simp at hy; omega)).q hq8)
              have H8X := Lib.hid (k8.q hq8)
              have H9X := Lib.hid (k9.q hq8)
              have HGX := Lib.hid ((HG6.out.trans hg7).trans (GX.q hq8))
              have HPB := Lib.hid hpb
              have hN7 : W5.heap.size ≤ W7.heap.size := (HG6.out.trans hg7).size
              have HNE : Hid (∀ g, u14.ownBlock = some g → g ≠ W7.heap.size) := Lib.hid (fun g hg e => by
                have h1 := (HO6.out.block hg).2.1
                have h2 := hg7.size
                omega)
              have hbn := badT_bd nm sa sb b3 b1 b2
              clear hWX hWX2 hpb hq8 k8 k9 hg7 HO6 H86 H96 HG6
              generalize W7.heap.size = N7 at HPB hN7 HNE ⊢
              simp only [Act.put, List.setIfInBounds_toArray, List.set_cons_succ, List.set_cons_zero]
              obtain ⟨DN, hDN⟩ : ∃ DN, (decOut nm).1 = DN := ⟨_, rfl⟩
              rw [hDN] at HPB HSN ⊢
              clear hDN
              rcases f with _ | _
              · rw [if_neg (by decide)] at HSN
                go_upto_region 24 with (fail)
                iterate 4 go_step
                refine wpList_load_row rfl 37 (.tmp 20) rfl N7 rfl _ _ _ _ HPB.out Tryz.underlying37 rfl infoP ?_
                simp only [pairL, Act.put, List.setIfInBounds_toArray, List.set_cons_succ, List.set_cons_zero]
                iterate 3 go_step
                refine wpList_append_u rfl (.tmp 80) (.tmp 82) rfl W5 WX u14 sp (DN, []) rfl HOX.out rfl HGX.out.size (by have h' : sp.length ≤ 200000010 := HPL.out; omega) ?_
                intro v9 w9 ho9 hg9
                obtain ⟨m8, m9, mg⟩ := gx_app HOX.out (by omega) (by omega) H8X.out H9X.out HGX.out hg9
                have HO9 := Lib.hid ho9
                have HM8 := Lib.hid m8
                have HM9 := Lib.hid m9
                have HMG := Lib.hid mg
                clear ho9 hg9 m8 m9 mg HOX H8X H9X HGX HPB
                go_wp2_with fail
                go_roundw
                case rel => exact ⟨k + 1, by omega, by go_num, by rw [HSN.out]; exact HO9, by rw [HSN.out]; exact HM8, by rw [HSN.out]; exact HM9, HMG⟩
                case measure => simp [intOf]; omega
              · rw [if_pos rfl] at HSN
                have hcl : nm.length + 1 + vl.length = pt.length := HCL.out.1 rfl
                go_wp2_with fail
                refine (Target1_any vl N8 (N8 + 1) (sa + (nm.length + 1)) (badT nm sa sb) WX H8X.out H9X.out (by omega) (by omega) (by omega) (by omega) (by omega) (by omega)).mono ?_
                rintro e WZ ⟨rfl, k8, k9, hg7⟩
                obtain ⟨DV, hDV⟩ : ∃ DV, (decOut vl).1 = DV := ⟨_, rfl⟩
                rw [hDV] at HSN ⊢
                clear hDV
                have hpz : PB WZ N7 (DN, []) := hg7.heap (by simp; omega) HPB.out
                have cz := hpz.c1
                have fz := hpz.f (i := 1)
                have HOZ := Lib.hid (HOX.out.x hg7 (by intro y hy; simp at hy; omega))
                have HGZ := Lib.hid (HGX.out.trans hg7)
                have H8Z := Lib.hid k8
                have H9Z := Lib.hid k9
                have HPZ := Lib.hid hpz
                clear hpz k8 k9 hg7 HOX H8X H9X HGX HPB
                go_upto_region 24 with (fail)
                obtain ⟨WY, hWY⟩ : ∃ W, WZ.setCell ⟨N7, 1, none⟩ (.string ⟨DV.toArray⟩) = W := ⟨_, rfl⟩
                have HPB : Hid (PB WY N7 (DN, DV)) := Lib.hid (by rw [← hWY]; exact HPZ.out.set1)
                have H8X := Lib.hid (H8Z.out.other (show N8 ≠ N7 by omega) (.string ⟨DV.toArray⟩) (w := WZ))
                have HOX : Hid (OwnU W5 WY u14 sp) := Lib.hid (by
                  rw [← hWY]
                  exact HOZ.out.g (gb_set (b := WZ) (g := N7) ⟨rfl, rfl, rfl, Nat.le_refl _, fun _ _ _ => rfl⟩ 1 _) (fun g hg e => HNE.out g hg (by injection e with e; exact e.symm)))
                have HGX : Hid (GX [N8, N8 + 1] W5 WY) := Lib.hid (by rw [← hWY]; exact gx_new HGZ.out hN7 1 _)
                have HB8 : Hid (BI WY N8 (sa + (nm.length + 1) + (vl.length + 1))) := Lib.hid (by
                  rw [← hWY]; unfold BI; rw [heap_setCell_other WZ ⟨N7, 1, none⟩ N8 _ (by intro e; have : N8 = N7 := e; omega)]; exact H8Z.out)
                have HB9 : Hid (BI WY (N8 + 1) (badT vl (sa + (nm.length + 1)) (badT nm sa sb))) := Lib.hid (by
                  rw [← hWY]; unfold BI; rw [heap_setCell_other WZ ⟨N7, 1, none⟩ (N8 + 1) _ (by intro e; have : N8 + 1 = N7 := e; omega)]; exact H9Z.out)
                rw [hWY]
                clear hWY H8X HOZ HGZ H8Z H9Z HPZ cz fz
                have H8X := HB8
                have H9X := HB9
                clear HB8 HB9
                iterate 4 go_step
                refine wpList_load_row rfl 37 (.tmp 20) rfl N7 rfl _ _ _ _ HPB.out Tryz.underlying37 rfl infoP ?_
                simp only [pairL, Act.put, List.setIfInBounds_toArray, List.set_cons_succ, List.set_cons_zero]
                iterate 3 go_step
                refine wpList_append_u rfl (.tmp 80) (.tmp 82) rfl W5 WY u14 sp (DN, DV) rfl HOX.out rfl HGX.out.size (by have h' : sp.length ≤ 200000010 := HPL.out; omega) ?_
                intro v9 w9 ho9 hg9
                obtain ⟨m8, m9, mg⟩ := gx_app HOX.out (by omega) (by omega) H8X.out H9X.out HGX.out hg9
                have HO9 := Lib.hid ho9
                have HM8 := Lib.hid m8
                have HM9 := Lib.hid m9
                have HMG := Lib.hid mg
                clear ho9 hg9 m8 m9 mg HOX H8X H9X HGX HPB
                go_wp2_with fail
                go_roundw
                case rel => exact ⟨k + 1, by omega, by go_num, by rw [HSN.out]; exact HO9, by rw [HSN.out]; exact HM8, by rw [HSN.out]; exact HM9, HMG⟩
                case measure => simp [intOf]; omega
          · obtain rfl : k = ls.length := by omega
            have hbd := HFold.out ls.length
            rw [List.take_length] at HO H8 H9 hbd
            rw [← HR.out] at HO H8 H9 hbd
            have HQ9 := Lib.hid (HG.out.toQ HQ5.out (by intro y hy; simp at hy; omega))
            have HOW : Hid (OwnU w2 wr u14 (runT s).ps) := Lib.hid (by
              refine ⟨HO.out.1, ?_⟩
              rcases HO.out.2 with h1 | ⟨g, cap, cur, hv, h1, h2⟩
              · exact .inl h1
              · exact .inr ⟨g, cap, cur, hv, by have := HQ5.out.size; omega, h2⟩)
            have HFT : Hid (tgtL s = if 0 ≤ (runT s).bad then ([], [], 52, (runT s).bad) else (PD, (runT s).ps, 0, 0)) := Lib.hid (by
              unfold tgtL; rw [if_pos hh, HN.out, HPQ.out, ← HPD.out])
            obtain ⟨⟨sp, sa, sb⟩, hst⟩ : ∃ st, runT s = st := ⟨_, rfl⟩
            rw [hst] at HO H8 H9 hbd HOW HFT
            simp only at hbd
            have c9 := H9.out.c
            simp only at c9
            clear HO H8 HR HFold HPsl HPart HLen HSM HST hst
            by_cases h0 : 0 ≤ sb
            · rw [if_pos h0] at HFT
              go_wp2_with fail
              go_region
              all_goals
                go_wp2_with fail
                ((try simp only [Exit.inBlock, Exit.then]); refine bodyPost_ret (results_tmp4 rfl _ _ _) rfl ?_)
                unfold TgtPost
                rw [HFT.out]
                exact ⟨.slice none 0 0, rfl, OwnU.nil _ _, HQ9.out.drew⟩
            · rw [if_neg h0] at HFT
              go_wp2_with fail
              ((try simp only [Exit.inBlock, Exit.then]); refine bodyPost_ret (results_tmp4 rfl _ _ _) rfl ?_)
              unfold TgtPost
              rw [HFT.out]
              exact ⟨u14, rfl, HOW.out, HQ9.out⟩
end Go.Proofs.YtmmoenbmgcplkaaGreatDoor
set_option linter.unusedVariables false
set_option linter.unusedSimpArgs false
namespace Go.Proofs.YtmmoenbmgcplkaaGreatDoor
open Go Go.RowKit
end Go.Proofs.YtmmoenbmgcplkaaGreatDoor
set_option linter.unusedVariables false
set_option linter.unusedSimpArgs false
namespace Go.Proofs.YtmmoenbmgcplkaaGreatDoor
open Go Go.RowKit
end Go.Proofs.YtmmoenbmgcplkaaGreatDoor
set_option linter.unusedVariables false
set_option linter.unusedSimpArgs false
namespace Go.Proofs.YtmmoenbmgcplkaaGreatDoor
open Go Go.RowKit
end Go.Proofs.YtmmoenbmgcplkaaGreatDoor
set_option linter.unusedVariables false
set_option linter.unusedSimpArgs false
namespace Go.Proofs.YtmmoenbmgcplkaaGreatDoor
open Go Go.RowKit
end Go.Proofs.YtmmoenbmgcplkaaGreatDoor
set_option linter.unusedVariables false
set_option linter.unusedSimpArgs false
namespace Go.Proofs.YtmmoenbmgcplkaaGreatDoor
open Go Go.RowKit
def ErrG (w : World) : Prop := w.cell? ⟨0, 0, none⟩ = some (.iface 215 (.agg #[.pointer (some ⟨10, 60, none⟩)]))
structure S17 (w : World) : Prop where
  u : U13 w
  tab : Tab w
  et : ErrG w
  fo : Folds w
theorem S17.q {w w' : World} (h : S17 w) (hq : Q w w') : S17 w' := ⟨h.u.q hq, h.tab.q hq, hq.cell h.et, h.fo.q hq⟩
theorem stop_any (c : Int) (w : World) : Calls Tryz.prog 68 #[.int .i64 c] w fun e w' => (∃ b, e = .returned (.iface 101 (.pointer (some ⟨b, 0, none⟩))) ∧ FaultAt w' b c 0) ∧ Q w w' := by
  go_enter Tryz.func68, Tryz.ntmps68
  go_wp2
  go_ret
  exact ⟨⟨w.heap.size, rfl, (MapKept.heap_alloc w _).1⟩, (Q.refl _).alloc _⟩
theorem as_nil (x : Value) (w : World) : Calls Tryz.prog 74 #[.nilIface, x] w fun e w' => e = .returned (.bool false) ∧ w' = w := by
  go_enter Tryz.func74, Tryz.ntmps74
  go_wp2
  go_ret
  exact ⟨rfl, rfl⟩
theorem why_nil (w : World) : Calls Tryz.prog 31 #[.nilIface] w fun e w' => e = .returned (.int .i64 0) ∧ Q w w' := by
  go_enter Tryz.func31, Tryz.ntmps31
  go_wp2_with fail
  refine (as_nil _ _).mono ?_
  rintro e w' ⟨rfl, rfl⟩
  go_wp2_with fail
  go_ret
  exact ⟨rfl, (Q.refl _).alloc _⟩
theorem as_any (b bt : Nat) (w : World) (he : ErrG w) (ht : w.heap[bt]? = some (.cells #[.pointer none] 101 (0, 0))) :
    Calls Tryz.prog 74 #[.iface 101 (.pointer (some ⟨b, 0, none⟩)), .iface 103 (.pointer (some ⟨bt, 0, none⟩))] w fun e w' => e = .returned (.bool true) ∧ w'.heap[bt]? = some (.cells #[.pointer (some ⟨b, 0, none⟩)] 101 (0, 0)) ∧ w.grownBy w' (some bt) := by
  have c0 : w.cell? ⟨bt, 0, none⟩ = some (.pointer none) := by rw [cell_of_row _ _ _ _ _ _ ht]; rfl
  refine (as_hit ⟨b, 0, none⟩ ⟨bt, 0, none⟩ _ w he c0 (frozen_of_row w bt 0 _ _ ht)).mono ?_
  rintro e w' ⟨rfl, rfl⟩
  obtain ⟨W, hW⟩ : ∃ W, ((((w.alloc (.cells #[.pointer (some ⟨bt, 0, none⟩)] 103)).alloc (.cells #[.pointer (some ⟨10, 103, none⟩), .pointer (some ⟨w.heap.size, 0, none⟩), .int .u64 150] 168)).alloc (.cells #[.pointer (some ⟨10, 103, none⟩), .pointer (some ⟨w.heap.size, 0, none⟩), .int .u64 150] 168)).alloc (.cells #[.pointer (some ⟨b, 0, none⟩)] 101)) = W := ⟨_, rfl⟩
  have hq : Q w W := by rw [← hW]; exact ((((Q.refl w).alloc _).alloc _).alloc _).alloc _
  rw [hW]
  refine ⟨rfl, ?_, gb_set (hq.gb (some bt)) 0 _⟩
  rw [heap_setCell_any W bt 0 _ _ _ _ (hq.block ht)]; rfl
theorem PB.q' {w w' : World} {b : Nat} {p : PairD} (h : PB w b p) (hq : Q w w') : PB w' b p := hq.block h
theorem gU_get (l : List PairD) (j : Nat) (h : j < l.length) : gU l j = l[j] := by simp [gU, List.getD, h]
theorem why_fault (b : Nat) (c a : Int) (w : World) (h : FaultAt w b c a) (hg : ErrG w) : Calls Tryz.prog 31 #[.iface 101 (.pointer (some ⟨b, 0, none⟩))] w fun e w' => e = .returned (.int .i64 c) ∧ Q w w' := by
  have hq1 : Q w (w.alloc (.cells #[.pointer none] 101)) := (Q.refl w).alloc _
  have HA := Lib.hid (as_any b w.heap.size (w.alloc (.cells #[.pointer none] 101)) (hq1.cell hg) (MapKept.heap_alloc w _).1)
  have HQ1 := Lib.hid hq1
  have HF := Lib.hid h
  clear hq1 h hg
  go_enter Tryz.func31, Tryz.ntmps31
  go_wp2_with fail
  refine HA.out.mono ?_
  rintro e w2 ⟨rfl, hh, hg⟩
  have hq2 : Q w w2 := Below.grown HQ1.out hg HQ1.out.size (fun k hk => by cases hk; exact Nat.le_refl _)
  have c0 := (HF.out.q hq2).cell0
  have c1 : w2.cell? ⟨w.heap.size, 0, none⟩ = some (.pointer (some ⟨b, 0, none⟩)) := by rw [cell_of_row _ _ _ _ _ _ hh]; rfl
  have HQ2 := Lib.hid hq2
  clear hh hg hq2
  go_wp2_with fail
  go_ret
  exact ⟨rfl, HQ2.out⟩
def manyL (ps : List PairD) (t : List UInt8) : Nat := ps.countP fun p => smL p.1 == smL t
theorem many_snoc (ps : List PairD) (t : List UInt8) (k : Nat) (h : k < ps.length) : manyL (ps.take (k + 1)) t = manyL (ps.take k) t + if smL (gU ps k).1 = smL t then 1 else 0 := by
  unfold manyL
  rw [take_snocP ps k h, List.countP_append]
  simp [List.countP_cons, beq_iff_eq]
set_option maxRecDepth 100000 in
set_option maxHeartbeats 1000000 in
theorem many_any (A : Option Addr) (n cap : Nat) (ps : List PairD) (t : List UInt8) (w : World) (h : PairsAt w A n ps) (hn : n ≤ 1100000) (hps : ∀ p ∈ ps, p.1.length ≤ 10000000 ∧ p.2.length ≤ 10000000) (ht : t.length ≤ 1000) (hta : ∀ b ∈ t, b.toNat < 128) (hF : Folds w) :
    Calls Tryz.prog 26 #[.slice A n cap, .string ⟨t.toArray⟩] w fun e w' => e = .returned (.int .i64 (manyL ps t : Nat)) ∧ Q w w' := by
  obtain rfl := h.1
  have HP := Lib.hid h
  have HPS := Lib.hid hps
  have HTA := Lib.hid hta
  have HF := Lib.hid hF
  clear h hps hta hF
  go_enter Tryz.func26, Tryz.ntmps26
  go_wp2_with fail
  go_loopw [5, 10] (fun dv i wr => ∃ k D : Nat, k ≤ ps.length ∧ D ≤ k ∧ dv = .int .i64 (D : Int) ∧ i = .int .i64 (k : Int) ∧ Hid (manyL (ps.take k) t = D) ∧ Hid (Q w wr)) (fun _ i _ => ps.length - (intOf i).toNat)
  case atStart => exact ⟨0, 0, by omega, by omega, rfl, rfl, Lib.hid (by simp [manyL]), Lib.hid (Q.refl _)⟩
  case round =>
    obtain ⟨k, D, hk, hDk, rfl, rfl, HD, HQ⟩ := hrel
    by_cases hlt : k < ps.length
    · have g1 : decide (k < ps.length) = true := by simpa using hlt
      obtain ⟨g, off, rfl, e0, e1⟩ := (HP.out.q HQ.out).at hlt
      have HSN := Lib.hid (many_snoc ps t k hlt)
      obtain ⟨⟨x, y⟩, hxy⟩ : ∃ p, gU ps k = p := ⟨_, rfl⟩
      rw [hxy] at e0 e1 HSN
      simp only at e0 e1 HSN
      have hxl : x.length ≤ 10000000 := by
        have := HPS.out _ (List.getElem_mem hlt)
        rw [← gU_get _ _ hlt, hxy] at this; exact this.1
      clear hxy
      rename World => wa
      obtain ⟨hb5, hq5⟩ := PB.make wa (x, y)
      have hbn : (wa.alloc (.cells (pairL ([], [])).toArray 37)).heap[wa.heap.size]? = some (.cells (pairL ([], [])).toArray 37 (0, 0)) := (MapKept.heap_alloc wa _).1
      obtain ⟨N5, hN5⟩ : ∃ G, wa.heap.size = G := ⟨_, rfl⟩
      rw [hN5] at hb5 hq5 hbn
      obtain ⟨W4, hW4⟩ : ∃ W, wa.alloc (.cells (pairL ([], [])).toArray 37) = W := ⟨_, rfl⟩
      rw [hW4] at hb5 hq5 hbn
      have hW4b : wa.alloc (.cells #[.string ⟨#[]⟩, .string ⟨#[]⟩] 37) = W4 := hW4
      clear hW4
      go_upto_region 5 with (refine wpList_store_row rfl 37 _ _ rfl N5 (pairL (x, y)).toArray (by rfl) (by rfl) 37 _ hbn infoP rfl (pairL_one _) ?_)
      obtain ⟨W5, hW5⟩ : ∃ W, W4.setRow N5 (pairL (x, y)).toArray = W := ⟨_, rfl⟩
      rw [hW5] at hb5 hq5 ⊢
      have HQ5 := Lib.hid (HQ.out.trans hq5)
      have HB5 := Lib.hid hb5
      have b0 := hb5.c0
      simp only at b0
      clear hbn hN5 hW4b hW5 hb5 hq5 e0 e1 HQ
      go_wp2_with fail
      refine (EqualFold_any x t _ (by omega) ht HTA.out (HF.out.q HQ5.out)).mono ?_
      rintro e W6 ⟨r, rfl, hr, hq6⟩
      have HQ6 := Lib.hid (HQ5.out.trans hq6)
      have b1 := (HB5.out.q' hq6).c0
      simp only at b1
      have HLN : Hid (x.length ≠ t.length → smL x ≠ smL t) := Lib.hid (fun h e => h (by have := congrArg List.length e; simpa [smL] using this))
      clear b0 hq6
      by_cases hxt : x.length = t.length
      · have hr2 := hr hxt
        have q1 : ((x.length : Int) == (t.length : Int)) = true := by simp only [beq_iff_eq]; omega
        clear hr hxt HLN
        by_cases hsm : smL x = smL t
        · have hr3 : r = true := by rw [hr2]; exact decide_eq_true hsm
          have HN2 : manyL (ps.take (k + 1)) t = D + 1 := by rw [HSN.out, HD.out, if_pos hsm]
          have HN3 := Lib.hid HN2
          clear hr2 hsm HN2 HSN HD
          subst hr3
          go_wp2_with fail
          go_roundw
          case rel => exact ⟨k + 1, D + 1, by omega, by omega, by go_num, by go_num, HN3, HQ6⟩
          case measure => simp [intOf]; omega
        · have hr3 : r = false := by rw [hr2]; exact decide_eq_false hsm
          have HN2 : manyL (ps.take (k + 1)) t = D := by rw [HSN.out, HD.out, if_neg hsm]; rfl
          have HN3 := Lib.hid HN2
          clear hr2 hsm HN2 HSN HD
          subst hr3
          go_wp2_with fail
          go_roundw
          case rel => exact ⟨k + 1, D, by omega, by omega, rfl, by go_num, HN3, HQ6⟩
          case measure => simp [intOf]; omega
      · have q1 : ((x.length : Int) == (t.length : Int)) = false := by rw [beq_eq_false_iff_ne]; omega
        have HN2 : manyL (ps.take (k + 1)) t = D := by rw [HSN.out, HD.out, if_neg (HLN.out hxt)]; rfl
        have HN3 := Lib.hid HN2
        clear hr hxt HLN HN2 HSN HD
        rcases r with _ | _
        all_goals
          go_wp2_with fail
          go_roundw
          case rel => exact ⟨k + 1, D, by omega, by omega, rfl, by go_num, HN3, HQ6⟩
          case measure => simp [intOf]; omega
    · obtain rfl : k = ps.length := by omega
      rw [List.take_length] at HD
      go_wp2_with fail
      go_ret
      rw [HD.out]
      exact ⟨rfl, HQ.out⟩
end Go.Proofs.YtmmoenbmgcplkaaGreatDoor
set_option linter.unusedVariables false
set_option linter.unusedSimpArgs false
namespace Go.Proofs.YtmmoenbmgcplkaaGreatDoor
open Go Go.RowKit
def laidS : List (String × DataW Unit) := [("math/bits.deBruijn32tab", Rows.laid_math_bits_deBruijn32tab), ("math/bits.deBruijn64tab", Rows.laid_math_bits_deBruijn64tab), ("internal/strconv.uint64pow10", Rows.laid_internal_strconv_uint64pow10), ("unicode/utf8.acceptRanges", Rows.laid_unicode_utf8_acceptRanges), ("errors.errorType", Rows.laid_errors_errorType), ("unicode.asciiFold", Rows.laid_unicode_asciiFold), ("unicode.caseOrbit", Rows.laid_unicode_caseOrbit), ("unicode.CaseRanges", Rows.laid_unicode_CaseRanges), ("unicode/utf8.first", Rows.laid_unicode_utf8_first)]
def plainS : List (String × DataW Unit) := [("math/bits.deBruijn32tab", Rows.laid_math_bits_deBruijn32tab), ("math/bits.deBruijn64tab", Rows.laid_math_bits_deBruijn64tab), ("internal/strconv.uint64pow10", Rows.laid_internal_strconv_uint64pow10), ("unicode/utf8.acceptRanges", Rows.laid_unicode_utf8_acceptRanges), ("unicode.asciiFold", Rows.laid_unicode_asciiFold), ("unicode.caseOrbit", Rows.laid_unicode_caseOrbit), ("unicode.CaseRanges", Rows.laid_unicode_CaseRanges), ("unicode/utf8.first", Rows.laid_unicode_utf8_first)]
set_option maxRecDepth 100000 in
theorem pinned_case : Go.Pinned.caseRanges = Lib.caseData := by kernel_rfl
set_option maxRecDepth 100000 in
theorem pinned_first : Go.Pinned.utf8First = Lib.firstData := by kernel_rfl
theorem accept_data : (Rows.laid_unicode_utf8_acceptRanges : DataW Unit) = Lib.acceptData := by kernel_rfl
theorem laidS_parts {W : World} (h : laidMetH Tryz.prog laidS W) : laidMet Tryz.prog plainS W ∧ handlesMet Tryz.prog [("errors.errorType", Rows.laid_errors_errorType)] W := by
  have e1 : (laidS.filter fun x => x.2.handleName?.isSome) = [("errors.errorType", Rows.laid_errors_errorType)] := by kernel_rfl
  have e2 : (laidS.filter fun x => x.2.handleName?.isNone) = plainS := by kernel_rfl
  unfold laidMetH at h
  rw [e1] at h
  simp only at h
  rw [e2] at h
  exact h
theorem etS : Tryz.prog.globalNamed "errors.errorType" = some 0 := by kernel_rfl
theorem rtS : (Tryz.prog.cutTypes.find? (·.1 == "internal/reflectlite.rtype")).map (·.2) = some 215 := by kernel_rfl
theorem oneRowS : ((List.range Tryz.prog.types.size).filter fun t => Tryz.prog.rowNamed t [101, 114, 114, 111, 114]) = [60] := by kernel_rfl
theorem err_of_laidS {W : World} (h : handlesMet Tryz.prog [("errors.errorType", Rows.laid_errors_errorType)] W) : ErrG W := by
  obtain ⟨name, u, ty, e1, e2, e3, e4, e5⟩ := h _ (List.mem_singleton.2 rfl)
  have en : name = [101, 114, 114, 111, 114] := (Option.some.inj e1).symm
  subst en
  obtain rfl := Option.some.inj (rtS.symm.trans e2)
  have hm : ty ∈ (List.range Tryz.prog.types.size).filter fun t => Tryz.prog.rowNamed t [101, 114, 114, 111, 114] := List.mem_filter.2 ⟨List.mem_range.2 e3, e4⟩
  rw [oneRowS] at hm
  obtain rfl := List.mem_singleton.1 hm
  have hh : typeHandle Tryz.prog 60 = .pointer (some ⟨10, 60, none⟩) := by kernel_rfl
  rw [hh] at e5
  unfold ErrG
  simpa using World.var?_cell etS e5 0
theorem tab_of_laidS {W : World} (h : laidMet Tryz.prog plainS W) : Tab W := by
  have h2 := h.filter (fun x => x.1 == "internal/strconv.uint64pow10")
  have e : plainS.filter (fun x => x.1 == "internal/strconv.uint64pow10") = [("internal/strconv.uint64pow10", Lib.tabData .u64 Lib.pow10Tab)] := by kernel_rfl
  rw [e] at h2
  exact Lib.tabIs_of_head (g := 7) (by kernel_rfl) (t := 273) (by kernel_rfl) Tryz.underlying273 Tryz.underlying146 (by kernel_rfl) (by kernel_rfl) h2
def orbData : DataW Unit := .slice (orbT.map fun x => .agg ([(x.1 : Int), (x.2 : Int)].map fun z => .lit (.int .u16 z))) []
set_option maxRecDepth 100000 in
theorem orb_data : (Rows.laid_unicode_caseOrbit : DataW Unit) = orbData := by kernel_rfl
theorem spot_none {w : World} {b o : Nat} {sp : Option Nat} {v : Value} (h : w.cell? ⟨b, o, sp⟩ = some v) : sp = none := by
  cases sp with
  | none => rfl
  | some x =>
    unfold World.cell? at h
    split at h <;> simp at h
theorem folds_of_laidS {W : World} (h : laidMet Tryz.prog plainS W) : Folds W := by
  refine ⟨?_, ?_⟩
  · have h2 := h.filter (fun x => x.1 == "unicode.asciiFold")
    have e : plainS.filter (fun x => x.1 == "unicode.asciiFold") = [("unicode.asciiFold", Lib.tabData .u16 (afT.map fun x : Nat => (x : Int)))] := by kernel_rfl
    rw [e] at h2
    have ht := Lib.tabIs_of_head (g := 1) (by kernel_rfl) (t := 193) (by kernel_rfl) Tryz.underlying193 Tryz.underlying192 (by kernel_rfl) (by kernel_rfl) h2
    intro x hx
    have hl : (afT.map fun x : Nat => (x : Int)).length = 128 := by kernel_rfl
    have := ht.cell (g := 1) (by kernel_rfl) x (by rw [hl]; exact hx)
    rw [this]
    have hl2 : afT.length = 128 := by kernel_rfl
    simp [List.getD, hl2, hx]
  · have hr : Lib.VarReads Tryz.prog W "unicode.caseOrbit" orbData := orb_data ▸ Lib.laidMet.reads h (.tail _ (.tail _ (.tail _ (.tail _ (.tail _ (.head _))))))
    obtain ⟨g, t, cs, fuel, p, hg, hty, hvar, hd⟩ := hr
    have n1 : Tryz.prog.globalNamed "unicode.caseOrbit" = some 2 := by kernel_rfl
    have y1 : (Tryz.prog.globals[2]?).map (·.type) = some 194 := by kernel_rfl
    obtain rfl := Option.some.inj (n1.symm.trans hg)
    obtain rfl := Option.some.inj (y1.symm.trans hty)
    have c2 : Tryz.prog.cellsOf 196 = 2 := by kernel_rfl
    have c1 : Tryz.prog.cellsOf 192 = 1 := by kernel_rfl
    rcases DataW.trod_slice Tryz.underlying194 hd with ⟨_, hx'⟩ | ⟨a', len, cap, el, rs, m, hcs0, hc0, hx', _, hlc, _, hel, helem, hsp, _⟩
    · cases hx'
    have e0 := congrArg Prod.fst hx'
    simp only [orbData, DataW.slice.injEq] at e0
    obtain ⟨eE, eR⟩ := e0
    have h94 : orbT.length = 94 := by kernel_rfl
    have hlen : len = 94 := by
      have := congrArg List.length eE
      simp [h94] at this
      omega
    subst hlen
    have hrow : ∀ i, i < 94 → ∀ j, j < 2 → W.cell? ((a'.add (i * 2)).add j) = [Value.int .u16 ((orbT.getD i (0, 0)).1 : Nat), .int .u16 ((orbT.getD i (0, 0)).2 : Nat)][j]? := by
      intro i hi j hj
      have h1 := helem i hi
      rw [c2] at h1
      obtain ⟨b, hb⟩ : ∃ b, el[i]? = some b := ⟨el[i]'(by omega), List.getElem?_eq_getElem (by omega)⟩
      rw [hb] at h1
      obtain ⟨ce, hce, hte⟩ := Option.bind_eq_some_iff.1 h1
      have hb1 : b.1 = .agg ([((orbT.getD i (0, 0)).1 : Int), ((orbT.getD i (0, 0)).2 : Int)].map fun z => .lit (.int .u16 z)) := by
        have := congrArg (·[i]?) eE
        simp only [List.getElem?_map, hb, Option.map_some] at this
        rw [List.getElem?_eq_getElem (by rw [h94]; exact hi)] at this
        simp only [Option.map_some, Option.some.injEq] at this
        rw [← this]
        simp [List.getD, h94, hi]
      have hcs := Lib.ints_of_struct (p := b.2) Tryz.underlying196 (fun q f hq => by
        match q, hq with
        | 0, hq => simp at hq; subst hq; exact ⟨Tryz.underlying192, rfl, c1⟩
        | 1, hq => simp at hq; subst hq; exact ⟨Tryz.underlying192, rfl, c1⟩
        | q + 2, hq => simp at hq) (by rw [c2]; rfl) (by rw [← hb1]; exact hte)
      obtain ⟨_, _, hcc⟩ := World.cells?_some hce
      rw [hcc j hj, hcs]
      match j, hj with
      | 0, _ => rfl
      | 1, _ => rfl
    obtain ⟨R, oR, sR⟩ := a'
    obtain rfl : sR = none := by
      have h00 := hrow 0 (by omega) 0 (by omega)
      have : (Addr.add (Addr.add ⟨R, oR, sR⟩ (0 * 2)) 0) = ⟨R, oR, sR⟩ := by simp [Addr.add]
      rw [this] at h00
      exact spot_none h00
    refine ⟨R, oR, cap, ?_, fun i hi => ?_⟩
    · have := World.var?_cell n1 hvar 0
      rw [this, ← Array.getElem?_toList, hc0]
      rfl
    · have k0 := hrow i hi 0 (by omega)
      have k1 := hrow i hi 1 (by omega)
      have ea : ∀ j, (Addr.add (Addr.add ⟨R, oR, none⟩ (i * 2)) j) = ⟨R, oR + i * 2 + j, none⟩ := by
        intro j
        unfold Addr.add
        by_cases h1 : i * 2 = 0
        · rw [if_pos h1]
          by_cases h2 : j = 0
          · rw [if_pos h2]; simp [h1, h2]
          · rw [if_neg h2]; simp [h1]
        · rw [if_neg h1]
          by_cases h2 : j = 0
          · rw [if_pos h2]; simp [h2]
          · rw [if_neg h2]
      rw [ea] at k0 k1
      exact ⟨k0, k1⟩
def renS : Go.Shelf.Ren := ⟨laysX274_ren.f, laysX274_ren.t, fun | 13 => 3 | n => n⟩
theorem s17_of_laid {W : World} (h : laidMetH Tryz.prog laidS W) (hs : W.ShapedOpen Tryz.prog) : S17 W := by
  obtain ⟨hp, hh⟩ := laidS_parts h
  have ha : Lib.VarReads Tryz.prog W "unicode/utf8.acceptRanges" Lib.acceptData := accept_data ▸ Lib.laidMet.reads hp (.tail _ (.tail _ (.tail _ (.head _))))
  have hc : Lib.VarReads Tryz.prog W "unicode.CaseRanges" Lib.caseData := pinned_case ▸ Lib.laidMet.reads hp (.tail _ (.tail _ (.tail _ (.tail _ (.tail _ (.tail _ (.head _)))))))
  have hf : Lib.VarReads Tryz.prog W "unicode/utf8.first" Lib.firstData := pinned_first ▸ Lib.laidMet.reads hp (.tail _ (.tail _ (.tail _ (.tail _ (.tail _ (.tail _ (.tail _ (.head _))))))))
  exact ⟨⟨max_shaped hs,
    caseVar_of_reads (ρ := renS) { laysX274 with } (by kernel_rfl) ⟨by kernel_rfl, by kernel_rfl, by kernel_rfl, by kernel_rfl, by kernel_rfl, by kernel_rfl⟩ hc,
    utf8Tabs_of_reads (ρ := laysX260_ren) laysX260 ⟨by kernel_rfl, by kernel_rfl, by kernel_rfl, by kernel_rfl, by kernel_rfl, by kernel_rfl, by kernel_rfl⟩ hf ha⟩, tab_of_laidS hp, err_of_laidS hh, folds_of_laidS hp⟩
noncomputable def baseS (os : Os) : World := (World.holding Tryz.prog os ⟨#[], #[], []⟩).setCell ⟨0, 0, none⟩ (.iface 215 (.agg #[.pointer (some ⟨10, 60, none⟩)]))
noncomputable def witS (os : Os) : World := (baseS os).layVars Tryz.prog plainS
theorem witS_os (os : Os) : (witS os).os = os := by
  unfold witS
  rw [World.layVars_os]
  rfl
theorem laidS_met (os : Os) (args : Array Value) : laidMetH Tryz.prog laidS ((witS os).forCall (fun _ _ => 0) ⟨#[], args, []⟩).memory := by
  have e2 : (laidS.filter fun x => x.2.handleName?.isNone) = plainS := by kernel_rfl
  refine laidMetH_of_parts ?_ (by kernel_rfl)
  rw [e2]
  have f1 : (plainS.filter fun x => (plainS.map (·.1)).contains x.1) = plainS := List.filter_eq_self.2 fun x hx => List.contains_iff_mem.2 (List.mem_map.2 ⟨x, hx, rfl⟩)
  have f2 : (plainS.filter fun x => !(plainS.map (·.1)).contains x.1) = [] := List.filter_eq_nil_iff.2 fun x hx => by rw [List.contains_iff_mem.2 (List.mem_map.2 ⟨x, hx, rfl⟩)]; simp
  have h : laidMet Tryz.prog plainS (witS os) := laidMet_layVars (w0 := baseS os) (plainS.map (·.1)) [] (by rw [f1]; rfl) (by rw [f1]; kernel_rfl) (by rw [f1]; kernel_rfl) (by rw [f2]; exact LaidIn.none)
  exact h.of_heap (by simp [World.memory, World.forCall, Input.heap])
end Go.Proofs.YtmmoenbmgcplkaaGreatDoor
