/- Texts of this proof, laid into one: KbA, KbB, Qt, KbC, KbD. -/
import Derived.Test.YtlhhiiemojhjdaaDoorMs01
import Derived.Lib.Hide
import Derived.WalkSmall
import Derived.Deep.DeepCutAuto
import Derived.StillTail
import Derived.Test.YtlhhiiemojhjdaaDoorShelf
import Derived.Shelf.Strings.SlTrimAscii
import Derived.Deep.LoopGhost
set_option linter.unusedVariables false
set_option linter.unusedSimpArgs false
namespace Go.Proofs.YtlhhiiemojhjdaaDoor
open Go Go.RowKit
def jsonC (k : Int) (t : Txt) (vn vk : Value) : List Value := [.int .i64 k, .string ⟨t.toArray⟩, vn, vk]
theorem jsonC_len (k : Int) (t : Txt) (vn vk : Value) : (jsonC k t vn vk).length = 4 := rfl
def cellJ (j : JsonD) (vn vk : Value) : List Value := jsonC j.kind j.text vn vk
def gK (ks : List JsonD) (i : Nat) : JsonD := ks.getD i zeroJ
theorem gK_get (ks : List JsonD) (i : Nat) (h : i < ks.length) : gK ks i = ks[i] := by simp [gK, List.getD, h]
def NsV (w : World) (v : Value) (ns : List Txt) : Prop := ∃ A c, v = .slice A ns.length c ∧ ns.length ≤ c ∧ c ≤ 9223372036854775807 ∧ (0 < ns.length → ∃ g off, A = some ⟨g, off, none⟩ ∧ ∀ i, i < ns.length → w.cell? ⟨g, off + i, none⟩ = some (.string ⟨(gL ns i).toArray⟩))
mutual
def JV (w : World) : JsonD → Value → Value → Prop
  | .mk _ _ ns ks, vn, vk => NsV w vn ns ∧ ∃ B c, vk = .slice B ks.length c ∧ ks.length ≤ c ∧ c ≤ 9223372036854775807 ∧ (0 < ks.length → ∃ g off cells, B = some ⟨g, off, none⟩ ∧ (∀ i u, cells[i]? = some u → w.cell? ⟨g, off + i, none⟩ = some u) ∧ JK w ks cells)
def JK (w : World) : List JsonD → List Value → Prop
  | [], cells => cells = []
  | j :: r, cells => ∃ vn vk rest, cells = cellJ j vn vk ++ rest ∧ JV w j vn vk ∧ JK w r rest
end
theorem NsV.mono {w w' : World} {v : Value} {ns : List Txt} (h : NsV w v ns) (hc : ∀ p x, w.cell? p = some x → w'.cell? p = some x) : NsV w' v ns := by
  obtain ⟨A, c, e, h1, h2, h3⟩ := h
  refine ⟨A, c, e, h1, h2, fun h0 => ?_⟩
  obtain ⟨g, off, e2, h4⟩ := h3 h0
  exact ⟨g, off, e2, fun i hi => hc _ _ (h4 i hi)⟩
mutual
theorem JV.mono {w w' : World} (hc : ∀ p x, w.cell? p = some x → w'.cell? p = some x) : ∀ (j : JsonD) (vn vk : Value), JV w j vn vk → JV w' j vn vk
  | .mk k t ns ks, vn, vk, h => by
    rw [JV] at h ⊢
    obtain ⟨h1, B, c, e, h2, h3, h4⟩ := h
    refine ⟨h1.mono hc, B, c, e, h2, h3, fun h0 => ?_⟩
    obtain ⟨g, off, cells, e2, h5, h6⟩ := h4 h0
    exact ⟨g, off, cells, e2, fun i u hu => hc _ _ (h5 i u hu), JK.mono hc ks cells h6⟩
theorem JK.mono {w w' : World} (hc : ∀ p x, w.cell? p = some x → w'.cell? p = some x) : ∀ (ks : List JsonD) (cells : List Value), JK w ks cells → JK w' ks cells
  | [], cells, h => by rw [JK] at h ⊢; exact h
  | j :: r, cells, h => by
    rw [JK] at h ⊢
    obtain ⟨vn, vk, rest, e, h1, h2⟩ := h
    exact ⟨vn, vk, rest, e, JV.mono hc j vn vk h1, JK.mono hc r rest h2⟩
end
theorem JV.q {w w' : World} {j : JsonD} {vn vk : Value} (h : JV w j vn vk) (hq : Q w w') : JV w' j vn vk := JV.mono (fun _ _ => hq.cell) j vn vk h
theorem JK.at {w : World} : ∀ {ks : List JsonD} {cells : List Value}, JK w ks cells → ∀ {i : Nat}, i < ks.length → ∃ vn vk, JV w (gK ks i) vn vk ∧ ∀ m u, (cellJ (gK ks i) vn vk)[m]? = some u → cells[i * 4 + m]? = some u
  | [], cells, h, i, hi => absurd hi (by simp)
  | j :: r, cells, h, i, hi => by
    rw [JK] at h
    obtain ⟨vn, vk, rest, e, h1, h2⟩ := h
    cases i with
    | zero =>
      refine ⟨vn, vk, h1, fun m u hu => ?_⟩
      have hu : (cellJ j vn vk)[m]? = some u := hu
      have hm := (List.getElem?_eq_some_iff.1 hu).1
      rw [e, Nat.zero_mul, Nat.zero_add, List.getElem?_append_left hm]; exact hu
    | succ i =>
      obtain ⟨vn', vk', h3, h4⟩ := JK.at h2 (i := i) (by simpa using hi)
      refine ⟨vn', vk', h3, fun m u hu => ?_⟩
      rw [e, List.getElem?_append_right (by show (jsonC _ _ vn vk).length ≤ _; rw [jsonC_len]; omega)]
      have : (i + 1) * 4 + m - (cellJ j vn vk).length = i * 4 + m := by show _ - (jsonC _ _ vn vk).length = _; rw [jsonC_len]; omega
      rw [this]; exact h4 m u hu
theorem JV.kid {w : World} {k : Int} {t : Txt} {ns : List Txt} {ks : List JsonD} {vn vk : Value} (h : JV w (.mk k t ns ks) vn vk) : ∃ B c, vk = .slice B ks.length c ∧ ks.length ≤ c ∧ c ≤ 9223372036854775807 ∧ ∀ i, i < ks.length → ∃ g off vn' vk', B = some ⟨g, off, none⟩ ∧
    w.cell? ⟨g, off + i * 4, none⟩ = some (.int .i64 (gK ks i).kind) ∧ w.cell? ⟨g, off + i * 4 + 1, none⟩ = some (.string ⟨(gK ks i).text.toArray⟩) ∧ w.cell? ⟨g, off + i * 4 + 2, none⟩ = some vn' ∧ w.cell? ⟨g, off + i * 4 + 3, none⟩ = some vk' ∧ JV w (gK ks i) vn' vk' := by
  rw [JV] at h
  obtain ⟨h1, B, c, e, h2, h3, h4⟩ := h
  refine ⟨B, c, e, h2, h3, fun i hi => ?_⟩
  obtain ⟨g, off, cells, e2, h5, h6⟩ := h4 (by omega)
  obtain ⟨vn', vk', h7, h8⟩ := h6.at hi
  refine ⟨g, off, vn', vk', e2, ?_, ?_, ?_, ?_, h7⟩
  · exact h5 _ _ (h8 0 _ rfl)
  · rw [Nat.add_assoc]; exact h5 _ _ (h8 1 _ rfl)
  · rw [Nat.add_assoc]; exact h5 _ _ (h8 2 _ rfl)
  · rw [Nat.add_assoc]; exact h5 _ _ (h8 3 _ rfl)
mutual
def JO (w : World) : JsonD → Nat → Nat → Value → Value → Prop
  | .mk _ _ ns ks, lo, hi, vn, vk => lo ≤ hi ∧ w.ownsRow lo 9 1 vn ns.length (ns.map strV) ∧ (∀ b, vn.ownBlock = some b → b < hi) ∧ (∀ b, vk.ownBlock = some b → b < hi) ∧
    ∃ cells, w.ownsRow lo 40 4 vk ks.length cells ∧ JOK w (fun b => vn.ownBlock = some b ∨ vk.ownBlock = some b) ks lo hi cells
def JOK (w : World) (X : Nat → Prop) : List JsonD → Nat → Nat → List Value → Prop
  | [], _, _, cells => cells = []
  | j :: r, lo, hi, cells => ∃ vn vk rest l h, cells = cellJ j vn vk ++ rest ∧ lo ≤ l ∧ l ≤ h ∧ h ≤ hi ∧ (∀ b, X b → b < l ∨ h ≤ b) ∧ JO w j l h vn vk ∧ JOK w X r h hi rest
end
theorem ownsRow_frame {w w' : World} {base : Nat} {e : TypeId} {size : Nat} {v : Value} {n : Nat} {xs : List Value} (h : w.ownsRow base e size v n xs) (hb : ∀ b, v.ownBlock = some b → b < w.heap.size → w'.heap[b]? = w.heap[b]?) : w'.ownsRow base e size v n xs := by
  refine ⟨h.1, ?_⟩
  rcases h.2 with h2 | ⟨g, cap, cur, hv, h1, h2, h3⟩
  · exact .inl h2
  · exact .inr ⟨g, cap, cur, hv, h1, by rw [hb g (by rw [hv]; rfl) (lt_of_heap h2)]; exact h2, h3⟩
theorem ownsRow_low {w : World} {base base' : Nat} {e : TypeId} {size : Nat} {v : Value} {n : Nat} {xs : List Value} (h : w.ownsRow base e size v n xs) (hb : base' ≤ base) : w.ownsRow base' e size v n xs := by
  refine ⟨h.1, ?_⟩
  rcases h.2 with h2 | ⟨g, cap, cur, hv, h1, h2⟩
  · exact .inl h2
  · exact .inr ⟨g, cap, cur, hv, Nat.le_trans hb h1, h2⟩
theorem ownsRow_base {w : World} {base : Nat} {e : TypeId} {size : Nat} {v : Value} {n : Nat} {xs : List Value} (h : w.ownsRow base e size v n xs) {b : Nat} (hb : v.ownBlock = some b) : base ≤ b ∧ b < w.heap.size := by
  rcases h.2 with ⟨hv, _⟩ | ⟨g, cap, cur, hv, h1, h2, _⟩
  · rw [hv] at hb; cases hb
  · have : g = b := by rw [hv] at hb; simpa [Value.ownBlock] using hb
    subst this
    exact ⟨h1, lt_of_heap h2⟩
mutual
theorem JO.frame {w w' : World} : ∀ (j : JsonD) (lo hi : Nat) (vn vk : Value), (∀ b, lo ≤ b → b < hi → b < w.heap.size → w'.heap[b]? = w.heap[b]?) → JO w j lo hi vn vk → JO w' j lo hi vn vk
  | .mk k t ns ks, lo, hi, vn, vk, hf, h => by
    rw [JO] at h ⊢
    obtain ⟨h0, h1, h2, h3, cells, h4, h5⟩ := h
    exact ⟨h0, ownsRow_frame h1 (fun b hb hs => hf b (ownsRow_base h1 hb).1 (h2 b hb) hs), h2, h3, cells, ownsRow_frame h4 (fun b hb hs => hf b (ownsRow_base h4 hb).1 (h3 b hb) hs), JOK.frame _ ks lo hi cells hf h5⟩
theorem JOK.frame {w w' : World} (X : Nat → Prop) : ∀ (ks : List JsonD) (lo hi : Nat) (cells : List Value), (∀ b, lo ≤ b → b < hi → b < w.heap.size → w'.heap[b]? = w.heap[b]?) → JOK w X ks lo hi cells → JOK w' X ks lo hi cells
  | [], lo, hi, cells, _, h => by rw [JOK] at h ⊢; exact h
  | j :: r, lo, hi, cells, hf, h => by
    rw [JOK] at h ⊢
    obtain ⟨vn, vk, rest, l, h', e, a1, a2, a3, a4, a5, a6⟩ := h
    exact ⟨vn, vk, rest, l, h', e, a1, a2, a3, a4, JO.frame j l h' vn vk (fun b b1 b2 b3 => hf b (by omega) (by omega) b3) a5, JOK.frame X r h' hi rest (fun b b1 b2 b3 => hf b (by omega) b2 b3) a6⟩
end
theorem JOK.widen {w : World} {X X' : Nat → Prop} : ∀ {ks : List JsonD} {lo lo' hi hi' : Nat} {cells : List Value}, JOK w X ks lo hi cells → lo' ≤ lo → hi ≤ hi' → (∀ b, X' b → X b ∨ b < lo ∨ hi ≤ b) → JOK w X' ks lo' hi' cells
  | [], lo, lo', hi, hi', cells, h, _, _, _ => by rw [JOK] at h ⊢; exact h
  | j :: r, lo, lo', hi, hi', cells, h, h1, h2, h3 => by
    rw [JOK] at h ⊢
    obtain ⟨vn, vk, rest, l, h', e, a1, a2, a3, a4, a5, a6⟩ := h
    refine ⟨vn, vk, rest, l, h', e, by omega, a2, by omega, fun b hb => ?_, a5, JOK.widen a6 (Nat.le_refl _) h2 (fun b hb => ?_)⟩
    · rcases h3 b hb with h | h | h
      · exact a4 b h
      · left; omega
      · right; omega
    · rcases h3 b hb with h | h | h
      · exact .inl h
      · right; left; omega
      · right; right; exact h
theorem JO.widen {w : World} {j : JsonD} {lo lo' hi hi' : Nat} {vn vk : Value} (h : JO w j lo hi vn vk) (h1 : lo' ≤ lo) (h2 : hi ≤ hi') : JO w j lo' hi' vn vk := by
  obtain ⟨k, t, ns, ks⟩ := j
  rw [JO] at h ⊢
  obtain ⟨g0, g1, g2, g3, cells, g4, g5⟩ := h
  exact ⟨by omega, ownsRow_low g1 h1, fun b hb => by have := g2 b hb; omega, fun b hb => by have := g3 b hb; omega, cells, ownsRow_low g4 h1, g5.widen h1 h2 (fun b hb => .inl hb)⟩
theorem JO.le {w : World} {j : JsonD} {lo hi : Nat} {vn vk : Value} (h : JO w j lo hi vn vk) : lo ≤ hi := by
  obtain ⟨k, t, ns, ks⟩ := j
  rw [JO] at h; exact h.1
theorem JOK.snoc {w : World} {X : Nat → Prop} {j : JsonD} {vn vk : Value} {l h hi : Nat} (hj : JO w j l h vn vk) (hh : h ≤ hi) (hx : ∀ b, X b → b < l ∨ h ≤ b) : ∀ {ks : List JsonD} {lo : Nat} {cells : List Value}, JOK w X ks lo l cells → lo ≤ l → JOK w X (ks ++ [j]) lo hi (cells ++ cellJ j vn vk)
  | [], lo, cells, hk, hl => by
    rw [JOK] at hk
    subst hk
    rw [List.nil_append, List.nil_append, JOK]
    exact ⟨vn, vk, [], l, h, by rw [List.append_nil], hl, hj.le, hh, hx, hj, by rw [JOK]⟩
  | k :: r, lo, cells, hk, hl => by
    rw [JOK] at hk
    obtain ⟨vn', vk', rest, l', h', e, a1, a2, a3, a4, a5, a6⟩ := hk
    have := hj.le
    rw [List.cons_append, JOK]
    exact ⟨vn', vk', rest ++ cellJ j vn vk, l', h', by rw [e, List.append_assoc], a1, a2, by omega, a4, a5, JOK.snoc hj hh hx a6 a3⟩
theorem row_cells {w : World} {base : Nat} {e : TypeId} {size : Nat} {v : Value} {n : Nat} {xs : List Value} (h : w.ownsRow base e size v n xs) (hlen : xs.length = n * size) : ∃ A c, v = .slice A n c ∧ n ≤ c ∧ c ≤ maxLen ∧ (0 < n → ∃ g, A = some ⟨g, 0, none⟩ ∧ ∀ i u, xs[i]? = some u → w.cell? ⟨g, 0 + i, none⟩ = some u) := by
  rcases h.2 with ⟨hv, h0⟩ | ⟨g, cap, cur, hv, hb, hh, hn, hm, hcs, ht⟩
  · exact ⟨none, 0, by rw [hv, h0], by omega, Nat.zero_le _, fun h => by omega⟩
  · refine ⟨some ⟨g, 0, none⟩, cap, hv, hn, hm, fun h0 => ⟨g, rfl, fun i u hu => ?_⟩⟩
    have hi := (List.getElem?_eq_some_iff.1 hu).1
    rw [cell_of_row _ _ _ _ _ _ hh, Nat.zero_add, ← Array.getElem?_toList]
    rw [← ht, List.getElem?_take, if_pos (by omega)] at hu
    exact hu
mutual
theorem JO.read {w : World} : ∀ (j : JsonD) (lo hi : Nat) (vn vk : Value), JO w j lo hi vn vk → JV w j vn vk
  | .mk k t ns ks, lo, hi, vn, vk, h => by
    rw [JO] at h
    obtain ⟨h0, h1, h2, h3, cells, h4, h5⟩ := h
    rw [JV]
    obtain ⟨A, c, e1, e2, e3, e4⟩ := row_cells h1 (by simp)
    obtain ⟨B, c', f1, f2, f3, f4⟩ := row_cells h4 h4.1
    refine ⟨⟨A, c, e1, e2, Nat.le_trans e3 (by decide), fun h0 => ?_⟩, B, c', f1, f2, Nat.le_trans f3 (by decide), fun h0 => ?_⟩
    · obtain ⟨g, rfl, hc⟩ := e4 h0
      refine ⟨g, 0, rfl, fun i hi => hc i _ ?_⟩
      simp [strV, gL, List.getD, hi]
    · obtain ⟨g, rfl, hc⟩ := f4 h0
      exact ⟨g, 0, cells, rfl, hc, JOK.read _ ks lo hi cells h5⟩
theorem JOK.read {w : World} (X : Nat → Prop) : ∀ (ks : List JsonD) (lo hi : Nat) (cells : List Value), JOK w X ks lo hi cells → JK w ks cells
  | [], lo, hi, cells, h => by rw [JOK] at h; rw [JK]; exact h
  | j :: r, lo, hi, cells, h => by
    rw [JOK] at h
    rw [JK]
    obtain ⟨vn, vk, rest, l, h', e, a1, a2, a3, a4, a5, a6⟩ := h
    exact ⟨vn, vk, rest, e, JO.read j l h' vn vk a5, JOK.read X r h' hi rest a6⟩
end
end Go.Proofs.YtlhhiiemojhjdaaDoor
set_option linter.unusedVariables false
set_option linter.unusedSimpArgs false
namespace Go.Proofs.YtlhhiiemojhjdaaDoor
open Go Go.RowKit
def FaultJ (w : World) (b : Nat) (c a : Int) : Prop := w.heap[b]? = some (.cells #[.int .i64 c, .int .i64 a, .nilIface] 78 (0, 0))
theorem FaultJ.q {w w' : World} {b : Nat} {c a : Int} (h : FaultJ w b c a) (hq : Q w w') : FaultJ w' b c a := hq.block h
def RdB (w : World) (b : Nat) (s : Txt) (p : Nat) : Prop := w.heap[b]? = some (.cells #[.string ⟨s.toArray⟩, .int .i64 (p : Int)] 82 (0, 0))
theorem RdB.q {w w' : World} {b : Nat} {s : Txt} {p : Nat} (h : RdB w b s p) (hq : Q w w') : RdB w' b s p := hq.block h
theorem RdB.c0 {w : World} {b : Nat} {s : Txt} {p : Nat} (h : RdB w b s p) : w.cell? ⟨b, 0, none⟩ = some (.string ⟨s.toArray⟩) := by rw [cell_of_row _ _ _ _ _ _ h]; rfl
theorem RdB.c1 {w : World} {b : Nat} {s : Txt} {p : Nat} (h : RdB w b s p) : w.cell? ⟨b, 1, none⟩ = some (.int .i64 (p : Int)) := by rw [cell_of_row _ _ _ _ _ _ h]; rfl
theorem RdB.f {w : World} {b : Nat} {s : Txt} {p : Nat} (h : RdB w b s p) (i : Nat) : w.frozen? ⟨b, i, none⟩ = false := frozen_of_row w b i _ _ h
theorem RdB.lt {w : World} {b : Nat} {s : Txt} {p : Nat} (h : RdB w b s p) : b < w.heap.size := lt_of_heap h
theorem RdB.set {w : World} {b : Nat} {s : Txt} {p : Nat} (h : RdB w b s p) (q : Nat) : RdB (w.setCell ⟨b, 1, none⟩ (.int .i64 (q : Int))) b s q := by
  unfold RdB at h ⊢
  simp [World.setCell, Array.getElem?_modify, h]
def Gave (b : Nat) (s : Txt) (c n : Nat) (w : World) (e : Ending) (w' : World) : Prop :=
  (∃ bf, e = .panicked [{ v := .iface 76 (.pointer (some ⟨bf, 0, none⟩)), recovered := false }] ∧ FaultJ w' bf c ((s.length - n : Nat) : Int)) ∧ GX [b] w w'
theorem fail_any (c a : Int) (w : World) : Calls Tryd.prog 48 #[.int .i64 c, .int .i64 a] w fun e w' =>
    (∃ bf, e = .panicked [{ v := .iface 76 (.pointer (some ⟨bf, 0, none⟩)), recovered := false }] ∧ FaultJ w' bf c a) ∧ Q w w' := by
  go_enter Tryd.func48, Tryd.ntmps48
  go_wp2_with fail
  exact ⟨rfl, ⟨_, rfl, heap_alloc_new w _⟩, (Q.refl w).alloc _⟩
theorem hd_drop {s : Txt} {p : Nat} (h : p < s.length) : hdB (s.drop p) = gB s p := by rw [drop_at h]; rfl
theorem hd_drop_end {s : Txt} {p : Nat} (h : s.length ≤ p) : hdB (s.drop p) = 0 := by rw [List.drop_of_length_le h]; rfl
set_option maxRecDepth 100000 in
theorem peek_any (b : Nat) (s : Txt) (p : Nat) (w : World) (h : RdB w b s p) (hp : p ≤ s.length) (hl : s.length ≤ 140737488355328) :
    Calls Tryd.prog 71 #[.pointer (some ⟨b, 0, none⟩)] w fun e w' => e = .returned (.int .u8 ((hdB (s.drop p)).toNat : Int)) ∧ Q w w' := by
  have c0 : ∀ mm : QW w, mm.val.cell? ⟨b, 0, none⟩ = some (.string ⟨s.toArray⟩) := fun mm => mm.cell h.c0
  have c1 : ∀ mm : QW w, mm.val.cell? ⟨b, 1, none⟩ = some (.int .i64 (p : Int)) := fun mm => mm.cell h.c1
  have H := Lib.hid h
  clear h
  by_cases hlt : p < s.length
  · have g1 : decide (p < s.length) = true := by simpa using hlt
    have HE := Lib.hid (hd_drop hlt)
    go_enter Tryd.func71, Tryd.ntmps71
    go_upto_region 1 with (fail)
    refine wp_region_q (by kernel_rfl) (by kernel_rfl) ?_
    (repeat (go_big_quiet_step (fail)))
    refine wpQuiet_nil ?_
    rintro w1 ⟨m1, hm1⟩
    have hq1 : Q w w1 := by rw [hm1]; exact m1.le
    clear m1 hm1 c0 c1
    have c0 : ∀ mm : QW w1, mm.val.cell? ⟨b, 0, none⟩ = some (.string ⟨s.toArray⟩) := fun mm => mm.cell (H.out.q hq1).c0
    have c1 : ∀ mm : QW w1, mm.val.cell? ⟨b, 1, none⟩ = some (.int .i64 (p : Int)) := fun mm => mm.cell (H.out.q hq1).c1
    have HQ1 := Lib.hid hq1
    clear hq1
    go_upto_region 2 with (fail)
    refine wp_region_q (by kernel_rfl) (by kernel_rfl) ?_
    (repeat (go_big_quiet_step (fail)))
    refine wpQuiet_nil ?_
    rintro w2 ⟨m2, hm2⟩
    have HQ2 : Hid (Q w w2) := Lib.hid (HQ1.out.trans (by rw [hm2]; exact m2.le))
    clear m2 hm2 c0 c1
    go_wp2_with fail
    go_ret
    exact ⟨by rw [HE.out]; rfl, HQ2.out⟩
  · have g1 : decide (p < s.length) = false := by simpa using hlt
    have HE := Lib.hid (hd_drop_end (s := s) (p := p) (by omega))
    clear hlt
    go_enter Tryd.func71, Tryd.ntmps71
    go_upto_region 1 with (fail)
    refine wp_region_q (by kernel_rfl) (by kernel_rfl) ?_
    (repeat (go_big_quiet_step (fail)))
    refine wpQuiet_nil ?_
    rintro w1 ⟨m1, hm1⟩
    have hq1 : Q w w1 := by rw [hm1]; exact m1.le
    clear m1 hm1 c0 c1
    have HQ1 := Lib.hid hq1
    clear hq1
    go_wp2_with fail
    go_ret
    exact ⟨by rw [HE.out]; rfl, HQ1.out⟩
def UnitP (b : Nat) (s : Txt) (a : PR Unit) (w : World) (e : Ending) (w' : World) : Prop :=
  match a with
  | .ok _ r => e = .returned (.tuple #[]) ∧ (∃ q, q ≤ s.length ∧ s.drop q = r ∧ RdB w' b s q) ∧ GX [b] w w'
  | .bad c n => Gave b s c n w e w'
theorem take_drop {s : Txt} {p : Nat} (c : UInt8) (h : p < s.length) : takeR c (s.drop p) = if gB s p = c then .ok () (s.drop (p + 1)) else .bad 54 (s.length - p) := by
  rw [drop_at h, takeR]
  split
  · rfl
  · rw [List.length_drop]; congr 1; omega
theorem take_end {s : Txt} {p : Nat} (c : UInt8) (h : s.length ≤ p) : takeR c (s.drop p) = .bad 54 0 := by rw [List.drop_of_length_le h]; rfl
set_option maxRecDepth 100000 in
theorem take_any (b : Nat) (s : Txt) (p : Nat) (c : UInt8) (w : World) (h : RdB w b s p) (hp : p ≤ s.length) (hl : s.length ≤ 140737488355328) :
    Calls Tryd.prog 76 #[.pointer (some ⟨b, 0, none⟩), .int .u8 (c.toNat : Int)] w (UnitP b s (takeR c (s.drop p)) w) := by
  have c0 : ∀ mm : QW w, mm.val.cell? ⟨b, 0, none⟩ = some (.string ⟨s.toArray⟩) := fun mm => mm.cell h.c0
  have c1 : ∀ mm : QW w, mm.val.cell? ⟨b, 1, none⟩ = some (.int .i64 (p : Int)) := fun mm => mm.cell h.c1
  have H := Lib.hid h
  have HNo : Hid (∀ k, takeR c (s.drop p) = .bad 54 k → s.length - k = p → ∀ (w1 w2 : World) bf, Q w w1 → FaultJ w2 bf 54 (p : Int) → Q w1 w2 → UnitP b s (takeR c (s.drop p)) w (.panicked [{ v := .iface 76 (.pointer (some ⟨bf, 0, none⟩)), recovered := false }]) w2) := Lib.hid (fun k e hk w1 w2 bf h1 hf h2 => by
    rw [e]; exact ⟨⟨bf, rfl, by rw [hk]; exact hf⟩, GX.q (h1.trans h2)⟩)
  clear h
  by_cases hlt : p < s.length
  · have g1 : decide (s.length ≤ p) = false := by simpa using hlt
    have hlt' : decide (p < s.length) = true := by simpa using hlt
    by_cases hc : gB s p = c
    · have HE : Hid (takeR c (s.drop p) = .ok () (s.drop (p + 1))) := Lib.hid (by rw [take_drop c hlt, if_pos hc])
      have g2 : (((gB s p).toNat : Int) != (c.toNat : Int)) = false := by rw [hc]; simp
      clear hc HNo
      go_enter Tryd.func76, Tryd.ntmps76
      go_upto_region 0 with (fail)
      refine wp_region_q (by kernel_rfl) (by kernel_rfl) ?_
      (repeat (go_big_quiet_step (fail)))
      refine wpQuiet_nil ?_
      rintro w1 ⟨m1, hm1⟩
      have hq1 : Q w w1 := by rw [hm1]; exact m1.le
      clear m1 hm1 c0 c1
      have c1 := (H.out.q hq1).c1
      have f1 := (H.out.q hq1).f 1
      have HR : Hid (RdB (w1.setCell ⟨b, 1, none⟩ (.int .i64 ((p : Int) + 1))) b s (p + 1)) := Lib.hid (by have := (H.out.q hq1).set (p + 1); simpa using this)
      have HG : Hid (GX [b] w (w1.setCell ⟨b, 1, none⟩ (.int .i64 ((p : Int) + 1)))) := Lib.hid ((GX.q hq1).set (by simp) _ _)
      clear hq1
      go_wp2_with fail
      go_end0
      rw [HE.out]
      exact ⟨rfl, ⟨p + 1, by omega, rfl, HR.out⟩, HG.out⟩
    · have g2 : (((gB s p).toNat : Int) != (c.toNat : Int)) = true := by
        simp only [bne_iff_ne, ne_eq]; intro e; exact hc (UInt8.toNat_inj.1 (by omega))
      have HN := Lib.hid (HNo.out _ (by rw [take_drop c hlt, if_neg hc]) (by omega))
      clear hc HNo
      go_enter Tryd.func76, Tryd.ntmps76
      go_upto_region 0 with (fail)
      refine wp_region_q (by kernel_rfl) (by kernel_rfl) ?_
      (repeat (go_big_quiet_step (fail)))
      refine wpQuiet_nil ?_
      rintro w1 ⟨m1, hm1⟩
      have hq1 : Q w w1 := by rw [hm1]; exact m1.le
      clear m1 hm1 c0 c1
      have c1 := (H.out.q hq1).c1
      have HQ := Lib.hid hq1
      clear hq1
      go_wp2_with fail
      refine (fail_any 54 _ _).mono ?_
      rintro e w2 ⟨⟨bf, rfl, hf⟩, hq2⟩
      have HF := Lib.hid hf
      have HQ2 := Lib.hid hq2
      clear hf hq2
      go_wp2_with fail
      exact ⟨rfl, HN.out _ _ _ HQ.out HF.out HQ2.out⟩
  · have g1 : decide (s.length ≤ p) = true := by simp; omega
    have HN := Lib.hid (HNo.out 0 (take_end c (by omega)) (by omega))
    clear hlt HNo
    go_enter Tryd.func76, Tryd.ntmps76
    go_upto_region 0 with (fail)
    refine wp_region_q (by kernel_rfl) (by kernel_rfl) ?_
    (repeat (go_big_quiet_step (fail)))
    refine wpQuiet_nil ?_
    rintro w1 ⟨m1, hm1⟩
    have hq1 : Q w w1 := by rw [hm1]; exact m1.le
    clear m1 hm1 c0 c1
    have c1 := (H.out.q hq1).c1
    have HQ := Lib.hid hq1
    clear hq1
    go_wp2_with fail
    refine (fail_any 54 _ _).mono ?_
    rintro e w2 ⟨⟨bf, rfl, hf⟩, hq2⟩
    have HF := Lib.hid hf
    have HQ2 := Lib.hid hq2
    clear hf hq2
    go_wp2_with fail
    exact ⟨rfl, HN.out _ _ _ HQ.out HF.out HQ2.out⟩
end Go.Proofs.YtlhhiiemojhjdaaDoor
set_option linter.unusedVariables false
namespace Go.Proofs.YtlhhiiemojhjdaaDoor
open Go Go.RowKit
section
variable {P : Program} {ops : Array Oper} {md : Region.Mode} {C : World → Prop}
def headQ (P : Program) (md : Region.Mode) (ops : Array Oper) (C : World → Prop) (n : Nat) (L : Array Bool → Act → Prop) : Nat → Array Bool → Act → Prop
  | 0, ls, a => L ls a
  | f + 1, ls, a => Region.ready md ops ls ≠ [] ∧ ∀ i ∈ Region.ready md ops ls, i < n ∧ qOp P ops C i (headQ P md ops C n L f (ls.setIfInBounds i true)) a
theorem any_of_headQ {n g : Nat} {L : Array Bool → Act → Prop} {R : Exit → Act → World → Prop} (hL : ∀ ls a w, C w → L ls a → wpAny P md ops R g ls a w) (f : Nat) :
    ∀ (ls : Array Bool) (a : Act) (w : World), C w → headQ P md ops C n L f ls a → wpAny P md ops R (f + g) ls a w := by
  induction f with
  | zero => intro ls a w hw h; rw [Nat.zero_add]; exact hL _ _ _ hw h
  | succ f ih =>
    intro ls a w hw h
    rw [Nat.add_right_comm]
    exact ⟨fun h0 => (h.1 h0).elim, fun i hi => wpOp_of_qOp hw (fun a' w' hw' hk => ih _ a' w' hw' hk) (h.2 i hi).2⟩
theorem headQ_first {n i : Nat} {oi : Oper} {v : Value} {L : Array Bool → Act → Prop} (hi : ops[i]? = some oi) (hsel : ∀ (j : Nat) (o : Oper) cs b, ops[j]? = some o → o.op ≠ .select cs b)
    (hs : Region.sinkB md ops n = true) (hc : Region.chainB md ops n = true) (hn : n < ops.size) (hin : i < n) (hdone : ∀ ls a, L ls a → ∀ j ∈ Region.ready md ops ls, n ≤ j) (f : Nat) :
    ∀ (ls : Array Bool) (a : Act), HeadInv md ops n ls →
      (∀ j oj, ops[j]? = some oj → j ≠ i → ls.getD j true = false → (∀ e ∈ oj.after, Region.binds md e = true → e.on ≠ i) → oi.apart ops oj = true) →
      i ∈ Region.ready md ops ls → YieldsIn P ops C oi v a → headQ P md ops C n L f (ls.setIfInBounds i true) (a.put oi.dst v) → headQ P md ops C n L (f + 1) ls a := by
  induction f with
  | zero =>
    intro ls a inv _ hr hy H
    have hun := (mem_ready.1 hr).1
    refine ⟨List.ne_nil_of_mem hr, fun j hj => ?_⟩
    have hjn : j < n := Nat.lt_of_not_le fun h => tail_waits hs hc hn inv _ i rfl hin hun j h hj
    by_cases e : j = i
    · rw [e] at hjn ⊢; exact ⟨hjn, hy.qOp hi H⟩
    · exact absurd (hdone _ _ H j (ready_mono hj e)) (Nat.not_le.2 hjn)
  | succ f ih =>
    intro ls a inv hfree hr hy H
    have hun := (mem_ready.1 hr).1
    refine ⟨List.ne_nil_of_mem hr, fun j hj => ?_⟩
    have hjn : j < n := Nat.lt_of_not_le fun h => tail_waits hs hc hn inv _ i rfl hin hun j h hj
    by_cases e : j = i
    · rw [e] at hjn ⊢; exact ⟨hjn, hy.qOp hi H⟩
    · refine ⟨hjn, ?_⟩
      obtain ⟨hjun, oj, hoj, hall⟩ := mem_ready.1 hj
      have hno : ∀ x ∈ oj.after, Region.binds md x = true → x.on ≠ i := by
        intro x hx hb he
        have := hall x hx hb
        rw [he, getD_both hun] at this
        cases this
      have h2 := qOp_put hoj (hfree j oj hoj e hjun hno) (fun cs b => hsel i oi cs b hi) (fun cs b => hsel j oj cs b hoj) hy (H.2 j (ready_mono hj e)).2
      refine qOp_mono (fun a' h3 => ih _ a' (inv.set hj hjn) (fun k ok hk hki hku hkn => hfree k ok hk hki ?_ hkn) (ready_mono hr (Ne.symm e)) h3.1 (by rw [Array.setIfInBounds_comm _ _ e]; exact h3.2)) h2
      by_cases hjk : j = k
      · rw [← hjk]; exact hjun
      · rwa [getD_set_ne true hjk] at hku
theorem headQ_lex {n g : Nat} {K : Act → Prop} (hsel : Region.noSelect ops = true) (hs : Region.sinkB md ops n = true) (hc : Region.chainB md ops n = true) (hn : n < ops.size) (l : List Oper) :
    ∀ (k : Nat) (ls : Array Bool) (a : Act), (∀ j, j < l.length → l[j]? = ops[k + j]?) → k + l.length = n → HeadInv md ops n ls →
    Region.lexHead md ops g l.length k ls = true → wpQuiet P ops C K l a → headQ P md ops C n (fun ls' a' => Region.seqB md ops g n ls' = true ∧ K a') l.length ls a := by
  induction l with
  | nil =>
    intro k ls a _ hk _ hB h
    have e : k = n := by simpa using hk
    exact ⟨by rw [← e]; simpa [Region.lexHead] using hB, h⟩
  | cons o l ih =>
    intro k ls a hl hk inv hB h
    have h0 : ops[k]? = some o := by simpa using (hl 0 (by simp)).symm
    simp only [List.length_cons, Region.lexHead, Bool.and_eq_true] at hB hk
    have hkn : k < n := by omega
    have hr : k ∈ Region.ready md ops ls := by simpa using hB.1.1
    have hq : qOp P ops C k (wpQuiet P ops C K l) a := by unfold qOp; simp only [h0]; exact h
    obtain ⟨v, hy, hK⟩ := yieldsIn_of_qOp h0 hq
    refine headQ_first h0 (Region.noSelect_spec hsel) hs hc hn hkn (fun ls' a' hL => seqB_ready hL.1) l.length ls a inv (Region.free_spec h0 hB.1.2) hr hy ?_
    refine ih (k + 1) _ _ (fun j hj => ?_) (by omega) (inv.set hr hkn) hB.2 hK
    have := hl (j + 1) (by simp; omega)
    simpa [Nat.add_assoc, Nat.add_comm 1 j] using this
theorem wp_region_quiet_tail {id : Nat} {R : Exit → Act → World → Prop} {a : Act} {w : World} {l : List Oper} (n : Nat) (hm : P.follows .mixedOrders = true) (hB : Region.lexTailB .any l.toArray n = true)
    (hC : C { w with drawn := w.drawn + 1 }) (h : wpQuiet P l.toArray C (fun a' => ∀ w', C w' → wpList P l.toArray R (l.drop n) a' w') (l.take n) a) : (Code.region id l.toArray true).wp P R a w := by
  simp only [Region.lexTailB, Bool.and_eq_true, decide_eq_true_eq] at hB
  have hn : n < l.length := by simpa using hB.1.1.1.2
  have htl : (l.take n).length = n := by simp; omega
  have hdl : (l.drop n).length = l.toArray.size - n := by simp
  have inv0 : HeadInv .any l.toArray n (Array.replicate l.toArray.size false) :=
    ⟨by simp, fun j oj _ hl => (by rw [getD_replicate_false] at hl; cases hl), fun t _ ht => getD_in (by simpa using ht) (getD_replicate_false _ _)⟩
  have H := headQ_lex (md := .any) (C := C) (g := l.toArray.size - n) hB.1.1.1.1 hB.1.1.2 hB.1.2 hB.1.1.1.2 (l.take n) 0 _ a (fun j hj => by rw [htl] at hj; simp [hj]) (by simpa using htl) inv0 (by rw [htl]; exact hB.2) h
  refine wp_region_any hm ?_
  have := any_of_headQ (C := C) (R := R) (g := l.toArray.size - n) (fun ls a' w' hw' hL => by
    have h1 := wpAny_of_seq (md := .any) (Q' := R) (l.drop n) n ls a' w' (fun j => by simp [List.getElem?_drop]) (by rw [hdl]; exact hL.1) (hL.2 w' hw')
    rwa [hdl] at h1) _ _ _ _ hC H
  have hsz : n + (l.toArray.size - n) = l.toArray.size := by
    have : l.toArray.size = l.length := by simp
    omega
  rwa [htl, hsz] at this
end
theorem wp_region_q_tail {P : Program} {id : Nat} {R : Exit → Act → World → Prop} {a : Act} {w : World} {l : List Oper} (n : Nat) (hm : P.follows .mixedOrders = true) (hB : Region.lexTailB .any l.toArray n = true)
    (h : wpQuiet P l.toArray (fun w' => ∃ m : QW w, w' = m.val) (fun a' => ∀ w', (∃ m : QW w, w' = m.val) → wpList P l.toArray R (l.drop n) a' w') (l.take n) a) : (Code.region id l.toArray true).wp P R a w :=
  wp_region_quiet_tail (C := fun w' => ∃ m : QW w, w' = m.val) n hm hB ⟨⟨w.drew, (Q.refl w).drew⟩, rfl⟩ h
end Go.Proofs.YtlhhiiemojhjdaaDoor
set_option linter.unusedVariables false
set_option linter.unusedSimpArgs false
namespace Go.Proofs.YtlhhiiemojhjdaaDoor
open Go Go.RowKit
def wsSet : Txt := [32, 9, 10, 13]
theorem trim_ws (l : Txt) : Lib.trimLeftS l wsSet = skipJ l := by
  unfold Lib.trimLeftS skipJ
  congr 1
  funext b
  unfold wsSet wsB
  rw [Bool.eq_iff_iff]
  simp only [List.contains_iff_mem, List.mem_cons, List.not_mem_nil, or_false, Bool.or_eq_true, beq_iff_eq]
  constructor
  · rintro (h | h | h | h) <;> simp [h]
  · rintro (((h | h) | h) | h) <;> simp [h]
theorem ws_ascii : ∀ (j : Nat) (b : UInt8), wsSet[j]? = some b → b.toNat < 128 := by
  intro j b h
  have hm := List.mem_of_getElem? h
  unfold wsSet at hm
  simp only [List.mem_cons, List.not_mem_nil, or_false] at hm
  rcases hm with h | h | h | h <;> (subst h; decide)
theorem trimws_any (l : Txt) (w : World) : Calls Tryd.prog 70 #[.string ⟨l.toArray⟩, .string ⟨#[32, 9, 10, 13]⟩] w fun e w' => e = .returned (.string ⟨(skipJ l).toArray⟩) ∧ Q w w' := by
  have h := Any.strings_TrimLeft_laid Tryd.lays161 (by kernel_rfl) ⟨l.toArray⟩ ⟨#[32, 9, 10, 13]⟩ w (by decide) ws_ascii
  refine Calls.mono h ?_
  rintro e w' ⟨rfl, hb⟩
  refine ⟨?_, hb⟩
  have e1 : Lib.trimLeftS (ByteArray.mk l.toArray).data.toList (ByteArray.mk #[32, 9, 10, 13]).data.toList = skipJ l := trim_ws l
  rw [e1]
theorem sub_drop (s : Txt) (p : Nat) : sub s p s.length = s.drop p := by unfold sub; rw [List.take_length]
def wsAt (s : Txt) (p : Nat) : Nat := s.length - (skipJ (s.drop p)).length
theorem ws_at {s : Txt} {p : Nat} (hp : p ≤ s.length) : s.drop (wsAt s p) = skipJ (s.drop p) ∧ p ≤ wsAt s p ∧ wsAt s p ≤ s.length := by
  have h := skip_suf (s.drop p)
  have hl := List.IsSuffix.length_le h
  rw [List.length_drop] at hl
  have h2 : skipJ (s.drop p) <:+ s := List.IsSuffix.trans h (List.drop_suffix p s)
  refine ⟨(List.suffix_iff_eq_drop.1 h2).symm, by unfold wsAt; omega, by unfold wsAt; omega⟩
set_option maxRecDepth 100000 in
theorem blanks_any (b : Nat) (s : Txt) (p : Nat) (w : World) (h : RdB w b s p) (hp : p ≤ s.length) (hl : s.length ≤ 1000000000) :
    Calls Tryd.prog 46 #[.pointer (some ⟨b, 0, none⟩)] w fun e w' => e = .returned (.tuple #[]) ∧ RdB w' b s (wsAt s p) ∧ GX [b] w w' := by
  have c0 : ∀ mm : QW w, mm.val.cell? ⟨b, 0, none⟩ = some (.string ⟨s.toArray⟩) := fun mm => mm.cell h.c0
  have c1 : ∀ mm : QW w, mm.val.cell? ⟨b, 1, none⟩ = some (.int .i64 (p : Int)) := fun mm => mm.cell h.c1
  have H := Lib.hid h
  have hs := sub_drop s p
  have hk := skip_len (s.drop p)
  rw [List.length_drop] at hk
  have HA := Lib.hid (ws_at hp)
  have HTr := Lib.hid (fun W => trimws_any (s.drop p) W)
  obtain ⟨K, hK⟩ : ∃ K, skipJ (s.drop p) = K := ⟨_, rfl⟩
  have HW : Hid (wsAt s p = s.length - K.length) := Lib.hid (by unfold wsAt; rw [hK])
  rw [hK] at hk HTr
  obtain ⟨D, hD⟩ : ∃ D, s.drop p = D := ⟨_, rfl⟩
  have hDl : D.length = s.length - p := by rw [← hD, List.length_drop]
  rw [hD] at hs HTr
  have HDl := Lib.hid hDl
  have hd2 : D.length ≤ 1000000000 := by omega
  have hkd : K.length ≤ D.length := by omega
  clear h hK hD hDl
  go_enter Tryd.func46, Tryd.ntmps46
  go_upto_region 0 with (fail)
  refine wp_region_q (by kernel_rfl) (by kernel_rfl) ?_
  (repeat (go_big_quiet_step (fail)))
  refine wpQuiet_nil ?_
  rintro w1 ⟨m1, hm1⟩
  have hq1 : Q w w1 := by rw [hm1]; exact m1.le
  clear m1 hm1 c0 c1
  have c1 : ∀ mm : QW w1, mm.val.cell? ⟨b, 1, none⟩ = some (.int .i64 (p : Int)) := fun mm => mm.cell (H.out.q hq1).c1
  have HQ1 := Lib.hid hq1
  clear hq1
  go_upto_region 1 with (fail)
  refine wp_region_q_tail 11 (by kernel_rfl) (by kernel_rfl) ?_
  simp only [List.take_succ_cons, List.take_zero, List.drop_succ_cons, List.drop_zero, Act.put]
  (repeat (go_big_quiet_step ((go_at_call 70; exact calls_q (HTr.out _)))))
  refine wpQuiet_nil ?_
  rintro w2 ⟨m2, hm2⟩
  have hq2 : Q w w2 := HQ1.out.trans (by rw [hm2]; exact m2.le)
  clear m2 hm2 c1
  have c1 := (H.out.q hq2).c1
  have f1 := (H.out.q hq2).f 1
  have e1 : (p : Int) + ((D.length : Int) - (K.length : Int)) = ((wsAt s p : Nat) : Int) := by rw [HW.out]; have := HDl.out; omega
  have HR : Hid (RdB (w2.setCell ⟨b, 1, none⟩ (.int .i64 ((p : Int) + ((D.length : Int) - (K.length : Int))))) b s (wsAt s p)) := Lib.hid (by rw [e1]; exact (H.out.q hq2).set _)
  have HG : Hid (GX [b] w (w2.setCell ⟨b, 1, none⟩ (.int .i64 ((p : Int) + ((D.length : Int) - (K.length : Int)))))) := Lib.hid ((GX.q hq2).set (by simp) _ _)
  clear hq2 e1
  go_wp2_with fail
  go_end0
  exact ⟨rfl, HR.out, HG.out⟩
end Go.Proofs.YtlhhiiemojhjdaaDoor
set_option linter.unusedVariables false
set_option linter.unusedSimpArgs false
namespace Go.Proofs.YtlhhiiemojhjdaaDoor
open Go Go.RowKit
theorem ten_iff (v : UInt8) : tenJ v = true ↔ (48 ≤ v.toNat ∧ v.toNat ≤ 57) := by unfold tenJ; simp
theorem GX.reader {b : Nat} {w w' : World} (h : GX [b] w w') {w'' : World} (hq : Q w' w'') : GX [b] w w'' := h.trans (GX.q hq)
def tenAt (s : Txt) (p : Nat) : Txt := (s.drop p).dropWhile tenJ
theorem ten_step {s : Txt} {p : Nat} (h : tenJ (hdB (s.drop p)) = true) : p < s.length ∧ tenAt s (p + 1) = tenAt s p := by
  have hp : p < s.length := by
    rcases Nat.lt_or_ge p s.length with h1 | h1
    · exact h1
    · rw [hd_drop_end h1] at h; exact absurd h (by decide)
  refine ⟨hp, ?_⟩
  unfold tenAt
  rw [drop_at hp] at h ⊢
  have h : tenJ (gB s p) = true := h
  rw [List.dropWhile_cons_of_pos h]
theorem ten_stop {s : Txt} {p : Nat} (h : tenJ (hdB (s.drop p)) = false) : tenAt s p = s.drop p := drop_ten h
set_option maxRecDepth 100000 in
theorem digits_any (b : Nat) (s : Txt) (p : Nat) (w : World) (h : RdB w b s p) (hp : p ≤ s.length) (hl : s.length ≤ 1000000000) :
    Calls Tryd.prog 99 #[.pointer (some ⟨b, 0, none⟩)] w (UnitP b s (digR (s.drop p)) w) := by
  have H := Lib.hid h
  have HPk := Lib.hid (fun q W (h : RdB W b s q) (hq : q ≤ s.length) => peek_any b s q W h hq (by omega))
  obtain ⟨v, hv⟩ : ∃ v, hdB (s.drop p) = v := ⟨_, rfl⟩
  have HV := Lib.hid hv
  have hvl : (v.toNat : Int) < 256 := by have := v.toNat_lt; omega
  have HP0 := Lib.hid (HPk.out p w h hp)
  rw [hv] at HP0
  clear h hv
  by_cases ht : tenJ v = true
  · have ht2 := (ten_iff v).1 ht
    have g1 : decide ((v.toNat : Int) < 48) = false := by simp; omega
    have g2 : decide ((57 : Int) < (v.toNat : Int)) = false := by simp; omega
    have HR : Hid (digR (s.drop p) = .ok () (tenAt s p)) := Lib.hid (by unfold digR tenAt; rw [HV.out, if_pos ht])
    clear ht ht2
    go_enter Tryd.func99, Tryd.ntmps99
    go_wp2_with fail
    refine HP0.out.mono ?_
    rintro e w1 ⟨rfl, hq1⟩
    have HQ1 := Lib.hid hq1
    have HP1 := Lib.hid (HPk.out p w1 (H.out.q hq1) hp)
    rw [HV.out] at HP1
    clear hq1
    go_wp2_with fail
    refine HP1.out.mono ?_
    rintro e w2 ⟨rfl, hq2⟩
    have HQ2 := Lib.hid (HQ1.out.trans hq2)
    clear hq2 g1 g2
    go_wp2_with fail
    go_loopg [3] (s.length + 1) (fun gk s3 wx => ∃ (q : Nat) (u : UInt8), s.length - q < gk ∧ q ≤ s.length ∧ s3 = .int .u8 (u.toNat : Int) ∧ Hid (hdB (s.drop q) = u ∧ tenAt s q = tenAt s p ∧ RdB wx b s q ∧ GX [b] w wx))
    case atStart => exact ⟨p, v, by omega, hp, rfl, Lib.hid ⟨HV.out, rfl, H.out.q HQ2.out, GX.q HQ2.out⟩⟩
    case round =>
      obtain ⟨q, u, hg, hql, rfl, HI⟩ := hrel
      rename World => wa
      obtain ⟨g', rfl⟩ : ∃ g', gk = g' + 1 := ⟨gk - 1, by omega⟩
      have hul : (u.toNat : Int) < 256 := by have := u.toNat_lt; omega
      by_cases hu : tenJ u = true
      · have hu2 := (ten_iff u).1 hu
        have st := ten_step (s := s) (p := q) (by rw [HI.out.1]; exact hu)
        have g1 : decide ((48 : Int) ≤ (u.toNat : Int)) = true := by simp; omega
        have g2 : decide ((u.toNat : Int) ≤ 57) = true := by simp; omega
        have c1 := HI.out.2.2.1.c1
        have f1 := HI.out.2.2.1.f 1
        have HR2 : Hid (RdB (wa.setCell ⟨b, 1, none⟩ (.int .i64 ((q : Int) + 1))) b s (q + 1)) := Lib.hid (by have := HI.out.2.2.1.set (q + 1); simpa using this)
        have HG2 : Hid (GX [b] w (wa.setCell ⟨b, 1, none⟩ (.int .i64 ((q : Int) + 1)))) := Lib.hid (HI.out.2.2.2.set (by simp) _ _)
        obtain ⟨hq1, hq2⟩ := st
        have HT := Lib.hid (hq2.trans HI.out.2.1)
        obtain ⟨u2, hu2e⟩ : ∃ u2, hdB (s.drop (q + 1)) = u2 := ⟨_, rfl⟩
        have HU2 := Lib.hid hu2e
        clear hu hu2 hq2 hu2e
        go_wp2_with fail
        refine (HPk.out (q + 1) _ HR2.out (by omega)).mono ?_
        rw [HU2.out]
        rintro e wb ⟨rfl, hqb⟩
        have HN : Hid (hdB (s.drop (q + 1)) = u2 ∧ tenAt s (q + 1) = tenAt s p ∧ RdB wb b s (q + 1) ∧ GX [b] w wb) := Lib.hid ⟨HU2.out, HT.out, HR2.out.q hqb, HG2.out.reader hqb⟩
        clear hqb c1 f1
        go_wp2_with fail
        go_roundg g'
        case measure => omega
        case rel => exact ⟨q + 1, u2, by omega, by omega, rfl, HN⟩
      · have hu2 : ¬ (48 ≤ u.toNat ∧ u.toNat ≤ 57) := fun h => hu ((ten_iff u).2 h)
        have HE : Hid (tenAt s p = s.drop q) := Lib.hid (by rw [← HI.out.2.1]; exact ten_stop (by rw [HI.out.1]; simpa using hu))
        by_cases h48 : 48 ≤ u.toNat
        · have g1 : decide ((48 : Int) ≤ (u.toNat : Int)) = true := by simp; omega
          have g2 : decide ((u.toNat : Int) ≤ 57) = false := by simp; omega
          clear hu hu2 h48
          go_wp2_with fail
          go_end0
          rw [HR.out, HE.out]
          exact ⟨rfl, ⟨q, hql, rfl, HI.out.2.2.1⟩, HI.out.2.2.2⟩
        · have g1 : decide ((48 : Int) ≤ (u.toNat : Int)) = false := by simp; omega
          clear hu hu2 h48
          go_wp2_with fail
          go_end0
          rw [HR.out, HE.out]
          exact ⟨rfl, ⟨q, hql, rfl, HI.out.2.2.1⟩, HI.out.2.2.2⟩
  · have ht2 : ¬ (48 ≤ v.toNat ∧ v.toNat ≤ 57) := fun h => ht ((ten_iff v).2 h)
    have HN : Hid (∀ (w1 w2 : World) bf, Q w w1 → FaultJ w2 bf 54 (p : Int) → Q w1 w2 → UnitP b s (digR (s.drop p)) w (.panicked [{ v := .iface 76 (.pointer (some ⟨bf, 0, none⟩)), recovered := false }]) w2) := Lib.hid (fun w1 w2 bf h1 hf h2 => by
      have e : digR (s.drop p) = .bad 54 (s.drop p).length := by unfold digR; rw [HV.out, if_neg ht]
      rw [e]
      refine ⟨⟨bf, rfl, ?_⟩, GX.q (h1.trans h2)⟩
      rw [List.length_drop, show s.length - (s.length - p) = p by omega]; exact hf)
    by_cases h48 : v.toNat < 48
    · have g1 : decide ((v.toNat : Int) < 48) = true := by simp; omega
      clear ht ht2 h48
      go_enter Tryd.func99, Tryd.ntmps99
      go_wp2_with fail
      refine HP0.out.mono ?_
      rintro e w1 ⟨rfl, hq1⟩
      have HQ1 := Lib.hid hq1
      have c1 := (H.out.q hq1).c1
      clear hq1
      go_wp2_with fail
      refine (fail_any 54 _ _).mono ?_
      rintro e w2 ⟨⟨bf, rfl, hf⟩, hq2⟩
      have HF := Lib.hid hf
      have HQ2 := Lib.hid hq2
      clear hf hq2
      go_wp2_with fail
      exact ⟨rfl, HN.out _ _ _ HQ1.out HF.out HQ2.out⟩
    · have g1 : decide ((v.toNat : Int) < 48) = false := by simp; omega
      have g2 : decide ((57 : Int) < (v.toNat : Int)) = true := by simp; omega
      clear ht ht2 h48
      go_enter Tryd.func99, Tryd.ntmps99
      go_wp2_with fail
      refine HP0.out.mono ?_
      rintro e w1 ⟨rfl, hq1⟩
      have HQ1 := Lib.hid hq1
      have c1 := (H.out.q hq1).c1
      clear hq1
      go_wp2_with fail
      refine (fail_any 54 _ _).mono ?_
      rintro e w2 ⟨⟨bf, rfl, hf⟩, hq2⟩
      have HF := Lib.hid hf
      have HQ2 := Lib.hid hq2
      clear hf hq2
      go_wp2_with fail
      exact ⟨rfl, HN.out _ _ _ HQ1.out HF.out HQ2.out⟩
end Go.Proofs.YtlhhiiemojhjdaaDoor
