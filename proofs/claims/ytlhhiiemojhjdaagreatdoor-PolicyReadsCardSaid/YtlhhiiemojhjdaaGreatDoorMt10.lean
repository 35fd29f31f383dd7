/- Texts of this proof, laid into one: KcI, KcJ, KdA, KdB, KdC, KdD, KdE, KdF, KdG, KeA, KeB, KeC, KeD, KeF, KeG, LaA, LaB, LaC. -/
import Derived.Test.YtlhhiiemojhjdaaGreatDoorMt09
set_option linter.unusedVariables false
set_option linter.unusedSimpArgs false
namespace Go.Proofs.YtlhhiiemojhjdaaGreatDoor
open Go Go.RowKit
theorem wf_names {k : Int} {t : Txt} {ns : List Txt} {ks : List JsonD} {d : Nat} (h : wfJ (.mk k t ns ks) d = true) : ns.length ≤ ks.length := by
  by_cases h0 : ns = []
  · rw [h0]; simp
  · rw [wfJ] at h
    by_cases h1 : k = 1 ∨ k = 2 ∨ k = 3
    · rw [if_pos h1] at h; simp [h0] at h
    · rw [if_neg h1] at h
      by_cases h4 : k = 4
      · rw [if_pos h4] at h; simp [h0] at h
      · rw [if_neg h4] at h
        by_cases h5 : k = 5
        · rw [if_pos h5] at h; simp [h0] at h
        · rw [if_neg h5] at h
          by_cases h6 : k = 6
          · rw [if_pos h6] at h; simp [h0] at h
          · rw [if_neg h6] at h
            by_cases h7 : k = 7
            · rw [if_pos h7] at h
              simp only [Bool.and_eq_true, decide_eq_true_eq] at h
              omega
            · rw [if_neg h7] at h; cases h
theorem wf_kid {k : Int} {t : Txt} {ns : List Txt} {ks : List JsonD} {d : Nat} (h : wfJ (.mk k t ns ks) d = true) {i : Nat} (hi : i < ks.length) : ∃ d', wfJ (gK ks i) d' = true := by
  have hne : ks ≠ [] := fun e => by rw [e] at hi; cases hi
  have key : wfKs ks (d - 1) = true := by
    rw [wfJ] at h
    by_cases h1 : k = 1 ∨ k = 2 ∨ k = 3
    · rw [if_pos h1] at h; simp [hne] at h
    · rw [if_neg h1] at h
      by_cases h4 : k = 4
      · rw [if_pos h4] at h; simp [hne] at h
      · rw [if_neg h4] at h
        by_cases h5 : k = 5
        · rw [if_pos h5] at h; simp [hne] at h
        · rw [if_neg h5] at h
          by_cases h6 : k = 6
          · rw [if_pos h6] at h; simp only [Bool.and_eq_true] at h; exact h.2
          · rw [if_neg h6] at h
            by_cases h7 : k = 7
            · rw [if_pos h7] at h; simp only [Bool.and_eq_true] at h; exact h.2
            · rw [if_neg h7] at h; cases h
  rw [gK_get ks i hi]
  exact ⟨_, wfKs_mem key _ (List.getElem_mem hi)⟩
theorem cnt_len (ks : List JsonD) : ks.length ≤ cntKs ks := by
  induction ks with
  | nil => simp
  | cons j r ih => rw [cntKs]; have := cnt_pos j; simp; omega
structure TwB (k : Int) (t : Txt) (ns : List Txt) (ks : List JsonD) (w : World) (B : Nat) (un uk : Value) (cells : List Value) (W : World) : Prop where
  q : Q w W
  sz : w.heap.size = B
  box : W.heap[B]? = some (.cells (cellJ (.mk k t ns ks) un uk).toArray 46 (0, 0))
  res : W.heap[B + 1]? = some (.cells zeroC.toArray 46 (0, 0))
  nrow : W.ownsRow (B + 2) 9 1 un ns.length (ns.map strV)
  krow : W.ownsRow (B + 2) 46 4 uk ks.length cells
theorem TwB.done {k : Int} {t : Txt} {ns : List Txt} {w W : World} {B : Nat} {un uk : Value} {cells : List Value} (h : TwB k t ns [] w B un uk cells W) : JO W (.mk k t ns []) (B + 2) W.heap.size un uk := by
  have hc : cells = [] := List.eq_nil_of_length_eq_zero (by have := h.krow.1; simpa using this)
  subst hc
  have hl := lt_of_heap h.res
  rw [JO]
  exact ⟨by omega, h.nrow, fun b hb => (ownsRow_base h.nrow hb).2, fun b hb => (ownsRow_base h.krow hb).2, [], h.krow, by rw [JOK]⟩
theorem TwB.start {k : Int} {t : Txt} {ns : List Txt} {ks : List JsonD} {w W : World} {B : Nat} {un uk : Value} {cells : List Value} (h : TwB k t ns ks w B un uk cells W) (hne : 0 < ks.length) (hjk : JK w ks cells) : ∃ g cap, uk = .slice (some ⟨g, 0, none⟩) ks.length cap ∧ TwS k t ns ks w B un g cap 0 [] cells W := by
  have hl := h.krow.1
  rcases h.krow.2 with ⟨_, h0⟩ | ⟨g, cap, cur, e, hb, h1, h2, h3, h4, h5⟩
  · omega
  · subst e
    refine ⟨g, cap, rfl, h.q, h.sz, h.box, h.res, h.nrow, hb, h2, h3, ⟨cur, h1, h4, ?_⟩, by simp, by rw [hl]; simp, by rw [List.take_zero, JOK], by rw [List.drop_zero]; exact hjk⟩
    rw [List.nil_append]; exact h5
theorem TwS.at {k : Int} {t : Txt} {ns : List Txt} {ks : List JsonD} {w : World} {B : Nat} {un : Value} {g cap i : Nat} {dn rest : List Value} {W : World} (h : TwS k t ns ks w B un g cap i dn rest W) (hi : i < ks.length) :
    ∃ vn vk rest2, rest = cellJ (gK ks i) vn vk ++ rest2 ∧ JK w (ks.drop (i + 1)) rest2 ∧ JV w (gK ks i) vn vk ∧ W.rangeAt g (i * 4) (cellJ (gK ks i) vn vk) ∧ W.there g (i * 4) 4 := by
  have hjk := h.jk
  rw [gK_dropJ ks i hi, JK] at hjk
  obtain ⟨vn, vk, rest2, e, h1, h2⟩ := hjk
  obtain ⟨cur, c1, c2, c3⟩ := h.row
  have hcap := h.cap1
  have hv2 : (cellJ (gK ks i) vn vk).length = 4 := jsonC_len _ _ _ _
  refine ⟨vn, vk, rest2, e, h2, h1, ?_, there_row c1 (by omega)⟩
  intro j u hu
  have hj : j < 4 := by have := (List.getElem?_eq_some_iff.1 hu).1; rw [hv2] at this; exact this
  rw [cell_of_row _ _ _ _ _ _ c1]
  have c4 := congrArg (fun l : List Value => l[i * 4 + j]?) c3
  simp only [e] at c4
  rw [List.getElem?_take, if_pos (by omega), List.getElem?_append_right (by rw [h.dlen]; omega), h.dlen, Nat.add_sub_cancel_left, List.getElem?_append_left (by rw [hv2]; exact hj), hu] at c4
  simpa using c4
def TwI (k : Int) (t : Txt) (ns : List Txt) (ks : List JsonD) (w : World) (B : Nat) (un uk : Value) (i : Nat) (W : World) : Prop := (ks = [] ∧ ∃ cells, TwB k t ns ks w B un uk cells W) ∨ ∃ g cap dn rest, uk = .slice (some ⟨g, 0, none⟩) ks.length cap ∧ TwS k t ns ks w B un g cap i dn rest W
theorem TwI.start {k : Int} {t : Txt} {ns : List Txt} {ks : List JsonD} {w W : World} {B : Nat} {un uk : Value} {cells : List Value} (h : TwB k t ns ks w B un uk cells W) (hjk : JK w ks cells) : TwI k t ns ks w B un uk 0 W := by
  by_cases h0 : ks = []
  · exact .inl ⟨h0, _, h⟩
  · obtain ⟨g, cap, e, h1⟩ := h.start (List.length_pos_iff.2 h0) hjk
    exact .inr ⟨g, cap, _, _, e, h1⟩
theorem TwI.go {k : Int} {t : Txt} {ns : List Txt} {ks : List JsonD} {w W : World} {B i : Nat} {un uk : Value} (h : TwI k t ns ks w B un uk i W) (hi : i < ks.length) : ∃ g cap dn rest, uk = .slice (some ⟨g, 0, none⟩) ks.length cap ∧ TwS k t ns ks w B un g cap i dn rest W := by
  rcases h with ⟨h0, _⟩ | h
  · rw [h0] at hi; cases hi
  · exact h
end Go.Proofs.YtlhhiiemojhjdaaGreatDoor
set_option linter.unusedVariables false
set_option linter.unusedSimpArgs false
namespace Go.Proofs.YtlhhiiemojhjdaaGreatDoor
open Go Go.RowKit
def findJ (j : JsonD) (x : Txt) : JsonD × Bool := if j.kind = 7 ∧ rtB j 20 8000 = true ∧ 0 ≤ ixN x j.names 0 then (gK j.kids (ixN x j.names 0).toNat, true) else (zeroJ, false)
theorem ixN_bound (x : Txt) : ∀ (ns : List Txt) (k : Nat), 0 ≤ ixN x ns k → (k : Int) ≤ ixN x ns k ∧ ixN x ns k < k + ns.length
  | [], k, h => by rw [ixN] at h; omega
  | y :: r, k, h => by
    rw [ixN] at h ⊢
    split at h
    · next e => rw [if_pos e]; simp; omega
    · next e => rw [if_neg e]; have := ixN_bound x r (k + 1) h; simp at this ⊢; omega
theorem ixN_low (x : Txt) : ∀ (ns : List Txt) (k : Nat), -1 ≤ ixN x ns k
  | [], k => by rw [ixN]; omega
  | y :: r, k => by rw [ixN]; split; omega; exact ixN_low x r (k + 1)
theorem find_kid {k : Int} {t : Txt} {ns : List Txt} {ks : List JsonD} {x : Txt} {i : Nat} (hk : k = 7) (hr : rtB (.mk k t ns ks) 20 8000 = true) (hi : ixN x ns 0 = (i : Int)) : findJ (.mk k t ns ks) x = (gK ks i, true) := by
  unfold findJ
  rw [if_pos ⟨hk, hr, by show 0 ≤ ixN x ns 0; omega⟩]
  show (gK ks (ixN x ns 0).toNat, true) = _
  rw [hi]; rfl
theorem rt_wf {j : JsonD} {d : Nat} {L : Int} (h : rtB j d L = true) : wfJ j d = true ∧ (cntJ j : Int) ≤ L := by
  unfold rtB at h
  simp only [Bool.and_eq_true, decide_eq_true_eq] at h
  exact h
theorem wf_obj {t : Txt} {ns : List Txt} {ks : List JsonD} {d : Nat} (h : wfJ (.mk 7 t ns ks) d = true) : ns.length = ks.length := by
  rw [wfJ] at h
  simp at h
  omega
theorem find_no {j : JsonD} {x : Txt} (h : ¬ (j.kind = 7 ∧ rtB j 20 8000 = true ∧ 0 ≤ ixN x j.names 0)) : findJ j x = (zeroJ, false) := by
  unfold findJ; rw [if_neg h]
end Go.Proofs.YtlhhiiemojhjdaaGreatDoor
namespace Go.Proofs.YtlhhiiemojhjdaaGreatDoor
end Go.Proofs.YtlhhiiemojhjdaaGreatDoor
namespace Go.Proofs.YtlhhiiemojhjdaaGreatDoor
end Go.Proofs.YtlhhiiemojhjdaaGreatDoor
namespace Go.Proofs.YtlhhiiemojhjdaaGreatDoor
end Go.Proofs.YtlhhiiemojhjdaaGreatDoor
namespace Go.Proofs.YtlhhiiemojhjdaaGreatDoor
end Go.Proofs.YtlhhiiemojhjdaaGreatDoor
namespace Go.Proofs.YtlhhiiemojhjdaaGreatDoor
end Go.Proofs.YtlhhiiemojhjdaaGreatDoor
namespace Go.Proofs.YtlhhiiemojhjdaaGreatDoor
end Go.Proofs.YtlhhiiemojhjdaaGreatDoor
namespace Go.Proofs.YtlhhiiemojhjdaaGreatDoor
end Go.Proofs.YtlhhiiemojhjdaaGreatDoor
set_option linter.unusedVariables false
set_option linter.unusedSimpArgs false
namespace Go.Proofs.YtlhhiiemojhjdaaGreatDoor
open Go Go.RowKit
def badC {α : Type} (p : PR α) : Prop := ∀ e n, p = .bad e n → e = 54 ∨ e = 57
theorem bc_ok {α : Type} (v : α) (r : List UInt8) : badC (PR.ok v r) := fun e n h => by cases h
theorem bc_54 {α : Type} (n : Nat) : badC (PR.bad (α := α) 54 n) := fun e m h => by cases h; exact .inl rfl
theorem bc_57 {α : Type} (n : Nat) : badC (PR.bad (α := α) 57 n) := fun e m h => by cases h; exact .inr rfl
theorem bc_bind {α β : Type} {p : PR α} {k : α → List UInt8 → PR β} (h1 : badC p) (h2 : ∀ v r, badC (k v r)) : badC (p.bind k) := by
  cases p with
  | ok v r => exact h2 v r
  | bad e n => exact fun e' n' h => by cases h; exact h1 e n rfl
theorem bc_if {α : Type} {c : Prop} [Decidable c] {a b : PR α} (h1 : badC a) (h2 : badC b) : badC (if c then a else b) := by
  split
  · exact h1
  · exact h2
theorem bc_take (b : UInt8) (l : List UInt8) : badC (takeR b l) := by
  cases l with
  | nil => exact bc_54 _
  | cons c t => rw [takeR]; exact bc_if (bc_ok _ _) (bc_54 _)
theorem bc_word (w : List UInt8) : ∀ l, badC (wordR w l) := by
  induction w with
  | nil => intro l; exact bc_ok _ _
  | cons b w ih => intro l; rw [wordR]; exact bc_bind (bc_take _ _) (fun _ t => ih t)
theorem bc_dig (l : List UInt8) : badC (digR l) := by unfold digR; exact bc_if (bc_ok _ _) (bc_54 _)
theorem bc_num (l : List UInt8) : badC (numR l) := by
  unfold numR
  refine bc_bind (by unfold intR; exact bc_if (bc_ok _ _) (bc_dig _)) (fun _ l2 => bc_bind (by unfold fracR; exact bc_if (bc_dig _) (bc_ok _ _)) (fun _ l3 => by unfold expR; exact bc_if (bc_dig _) (bc_ok _ _)))
theorem bc_four (f : Nat) : ∀ (k n : Nat) (l : List UInt8), badC (fourR f k n l)
  | 0, n, l => by rw [fourR]; exact bc_ok _ _
  | k + 1, n, [] => by rw [fourR]; exact bc_54 _
  | k + 1, n, b :: t => by
    rw [fourR]
    cases hexJ b with
    | none => exact bc_54 _
    | some v => exact bc_four f k _ t
theorem bc_must (f : Nat) (b : UInt8) (l : List UInt8) : badC (mustR f b l) := by
  cases l with
  | nil => exact bc_54 _
  | cons c t => rw [mustR]; exact bc_if (bc_ok _ _) (bc_54 _)
theorem bc_code (f c : Nat) (l : List UInt8) : badC (codeR f c l) := by
  unfold codeR
  refine bc_if (bc_54 _) (bc_if ?_ (bc_ok _ _))
  refine bc_bind ?_ (fun d t => bc_if (bc_ok _ _) (bc_54 _))
  unfold unitR
  exact bc_bind (bc_must _ _ _) (fun _ t => bc_bind (bc_must _ _ _) (fun _ u => bc_four _ _ _ _))
theorem bc_esc (l : List UInt8) : badC (escR l) := by
  match l with
  | [] => exact bc_54 _
  | [_] => exact bc_54 _
  | a :: b :: t =>
    rw [escR]
    refine bc_if (bc_bind (bc_four _ _ _ _) (fun c u => bc_code _ _ _)) ?_
    cases simpleE b with
    | none => exact bc_54 _
    | some c => exact bc_ok _ _
theorem bc_txt : ∀ (n : Nat) (l acc : List UInt8), badC (txtR n l acc)
  | 0, l, acc => by rw [txtR]; exact bc_54 _
  | n + 1, [], acc => by rw [txtR]; exact bc_54 _
  | n + 1, b :: t, acc => by
    rw [txtR]
    exact bc_if (bc_ok _ _) (bc_if (bc_bind (bc_esc _) (fun c u => bc_txt n _ _)) (bc_if (bc_54 _) (bc_txt n _ _)))
theorem bc_text (l : List UInt8) : badC (textR l) := bc_bind (bc_take _ _) (fun _ t => bc_txt _ _ _)
theorem bc_items {α : Type} {one : List UInt8 → PR α} (h : ∀ l, badC (one l)) (c : UInt8) : ∀ (n : Nat) (l : List UInt8) (acc : List α), badC (itemsR one c n l acc)
  | 0, l, acc => by rw [itemsR]; exact bc_54 _
  | n + 1, l, acc => by
    rw [itemsR]
    exact bc_bind (h l) (fun v r => bc_if (bc_ok _ _) (bc_bind (bc_take _ _) (fun _ u => bc_items h c n _ _)))
theorem bc_row {α : Type} {one : List UInt8 → PR α} (h : ∀ l, badC (one l)) (c : UInt8) (l : List UInt8) : badC (rowR one c l) := by
  unfold rowR; exact bc_if (bc_ok _ _) (bc_items h c _ _ _)
theorem bc_const (w : List UInt8) (k : Int) (l : List UInt8) : badC (constR w k l) := bc_bind (bc_word w l) (fun _ t => bc_ok _ _)
theorem bc_atom (l : List UInt8) : badC (atomR l) := by
  unfold atomR
  exact bc_if (bc_bind (bc_text _) (fun _ _ => bc_ok _ _)) (bc_if (bc_const _ _ _) (bc_if (bc_const _ _ _) (bc_if (bc_const _ _ _) (bc_if (bc_bind (bc_num _) (fun _ _ => bc_ok _ _)) (bc_54 _)))))
theorem bc_val : ∀ (d : Nat) (l : List UInt8), badC (valR d l)
  | 0, l => by rw [valR]; exact bc_if (bc_57 _) (bc_atom l)
  | d + 1, l => by
    rw [valR]
    refine bc_if (bc_bind (bc_row (bc_val d) _ _) (fun _ _ => bc_ok _ _)) (bc_if (bc_bind (bc_row ?_ _ _) (fun _ _ => bc_ok _ _)) (bc_atom l))
    intro l'
    unfold pairR
    exact bc_bind (bc_text _) (fun name r => bc_bind (bc_take _ _) (fun _ u => bc_bind (bc_val d _) (fun v t => bc_ok _ _)))
theorem parse_code {s : Txt} {c a : Nat} (h : parseJ s = .error (c, a)) : c = 54 ∨ c = 56 ∨ c = 57 := by
  unfold parseJ at h
  split at h
  · cases h; exact .inr (.inl rfl)
  · split at h
    · next e n hv =>
      cases h
      rcases bc_val 20 _ _ _ hv with h | h
      · exact .inl h
      · exact .inr (.inr h)
    · split at h
      · cases h
      · cases h; exact .inl rfl
end Go.Proofs.YtlhhiiemojhjdaaGreatDoor
set_option linter.unusedVariables false
set_option linter.unusedSimpArgs false
namespace Go.Proofs.YtlhhiiemojhjdaaGreatDoor
open Go Go.RowKit
end Go.Proofs.YtlhhiiemojhjdaaGreatDoor
set_option linter.unusedVariables false
set_option linter.unusedSimpArgs false
namespace Go.Proofs.YtlhhiiemojhjdaaGreatDoor
open Go Go.RowKit
def BoxV (W : World) (b : Nat) (j : JsonD) (vn vk : Value) : Prop := W.heap[b]? = some (.cells (cellJ j vn vk).toArray 46 (0, 0)) ∧ JV W j vn vk
theorem BoxV.q {W W' : World} {b : Nat} {j : JsonD} {vn vk : Value} (h : BoxV W b j vn vk) (hq : Q W W') : BoxV W' b j vn vk := ⟨hq.block h.1, h.2.q hq⟩
theorem BoxV.load {W : World} {b : Nat} {k : Int} {t : Txt} {ns : List Txt} {ks : List JsonD} {A1 A2 : Option Addr} {n1 c1 n2 c2 : Nat} (h : BoxV W b (.mk k t ns ks) (.slice A1 n1 c1) (.slice A2 n2 c2)) :
    W.cell? ⟨b, 0, none⟩ = some (.int .i64 k) ∧ W.cell? ⟨b, 1, none⟩ = some (.string ⟨t.toArray⟩) ∧ W.cell? ⟨b, 2, none⟩ = some (.slice A1 n1 c1) ∧ W.cell? ⟨b, 3, none⟩ = some (.slice A2 n2 c2) := by
  have h := h.1
  exact ⟨by rw [cell_of_row _ _ _ _ _ _ h]; rfl, by rw [cell_of_row _ _ _ _ _ _ h]; rfl, by rw [cell_of_row _ _ _ _ _ _ h]; rfl, by rw [cell_of_row _ _ _ _ _ _ h]; rfl⟩
end Go.Proofs.YtlhhiiemojhjdaaGreatDoor
set_option linter.unusedVariables false
set_option linter.unusedSimpArgs false
namespace Go.Proofs.YtlhhiiemojhjdaaGreatDoor
open Go Go.RowKit
theorem parse_len {s : Txt} {v : JsonD} (h : parseJ s = .ok v) : s.length ≤ 8000 := by
  unfold parseJ at h
  split at h
  · cases h
  · omega
theorem parse_small {s : Txt} (h : s.length ≤ 8000) : parseJ s = parseE s := by
  unfold parseJ parseE
  rw [if_neg (by omega)]
  try rfl
theorem rt_parse {s : Txt} {v : JsonD} (h : parseJ s = .ok v) : rtB v 20 8000 = true ∧ numJ v = true := by
  have hl := parse_len h
  rw [parse_small hl] at h
  obtain ⟨h1, h2, h3⟩ := parse_right h hl
  refine ⟨?_, h2⟩
  unfold rtB
  rw [h1]
  simp; omega
end Go.Proofs.YtlhhiiemojhjdaaGreatDoor
set_option linter.unusedVariables false
set_option linter.unusedSimpArgs false
namespace Go.Proofs.YtlhhiiemojhjdaaGreatDoor
open Go Go.RowKit
def pV (s : Txt) : JsonD := match parseJ s with
  | .ok v => v
  | .error _ => zeroJ
def toldN (s : Txt) : Int × Int := match parseJ s with
  | .ok _ => (0, 0)
  | .error ca => ((ca.1 : Nat), (ca.2 : Nat))
def ErrV (s : Txt) (W : World) (ev : Value) : Prop := match parseJ s with
  | .ok _ => ev = .nilIface
  | .error ca => ∃ bf, ev = .iface 32 (.pointer (some ⟨bf, 0, none⟩)) ∧ FaultJ W bf ca.1 (ca.2 : Nat)
theorem ErrV.q {s : Txt} {W W' : World} {ev : Value} (h : ErrV s W ev) (hq : Q W W') : ErrV s W' ev := by
  unfold ErrV at h ⊢
  cases hp : parseJ s with
  | ok v => rw [hp] at h; exact h
  | error ca =>
    rw [hp] at h
    obtain ⟨bf, e, hf⟩ := h
    exact ⟨bf, e, hf.q hq⟩
theorem pV_big (s : Txt) : bigJ 1100000 (pV s) := by
  unfold pV
  cases hp : parseJ s with
  | ok v => exact bigJ_mono (by decide) _ (parse_big hp)
  | error ca => unfold zeroJ; simp [bigJ, bigKs]
def blk : Nat → Txt
  | 0 => []
  | i + 1 => blk i ++ sub [32, 9, 10, 13] (i % 4) (i % 4 + 1)
end Go.Proofs.YtlhhiiemojhjdaaGreatDoor
set_option linter.unusedVariables false
set_option linter.unusedSimpArgs false
namespace Go.Proofs.YtlhhiiemojhjdaaGreatDoor
open Go Go.RowKit
end Go.Proofs.YtlhhiiemojhjdaaGreatDoor
set_option linter.unusedVariables false
set_option linter.unusedSimpArgs false
namespace Go.Proofs.YtlhhiiemojhjdaaGreatDoor
open Go Go.RowKit
def ScB (w : World) (b : Nat) (s : Txt) (p : Nat) (c a : Int) : Prop := w.heap[b]? = some (.cells #[.string ⟨s.toArray⟩, .int .i64 (p : Int), .int .i64 c, .int .i64 a] 63 (0, 0))
theorem ScB.q {w w' : World} {b : Nat} {s : Txt} {p : Nat} {c a : Int} (h : ScB w b s p c a) (hq : Q w w') : ScB w' b s p c a := hq.block h
theorem ScB.c {w : World} {b : Nat} {s : Txt} {p : Nat} {c a : Int} (h : ScB w b s p c a) : w.cell? ⟨b, 0, none⟩ = some (.string ⟨s.toArray⟩) ∧ w.cell? ⟨b, 1, none⟩ = some (.int .i64 (p : Int)) ∧ w.cell? ⟨b, 2, none⟩ = some (.int .i64 c) ∧ w.cell? ⟨b, 3, none⟩ = some (.int .i64 a) :=
  ⟨by rw [cell_of_row _ _ _ _ _ _ h]; rfl, by rw [cell_of_row _ _ _ _ _ _ h]; rfl, by rw [cell_of_row _ _ _ _ _ _ h]; rfl, by rw [cell_of_row _ _ _ _ _ _ h]; rfl⟩
theorem ScB.f {w : World} {b : Nat} {s : Txt} {p : Nat} {c a : Int} (h : ScB w b s p c a) (i : Nat) : w.frozen? ⟨b, i, none⟩ = false := frozen_of_row w b i _ _ h
def keepE (c a c' a' : Int) : Int × Int := if c = 0 then (c', a') else (c, a)
theorem no_any (b : Nat) (s : Txt) (p : Nat) (c a c' a' : Int) (w : World) (h : ScB w b s p c a) :
    Calls Tryz.prog 27 #[.pointer (some ⟨b, 0, none⟩), .int .i64 c', .int .i64 a'] w fun e w' => e = .returned (.tuple #[]) ∧ ScB w' b s p (keepE c a c' a').1 (keepE c a c' a').2 ∧ GX [b] w w' := by
  obtain ⟨x0, x1, x2, x3⟩ := h.c
  have f2 := h.f 2
  have f3 := h.f 3
  have H := Lib.hid h
  clear h
  by_cases hc : c = 0
  · subst hc
    have HX : Hid (ScB ((w.setCell ⟨b, 2, none⟩ (.int .i64 c')).setCell ⟨b, 3, none⟩ (.int .i64 a')) b s p (keepE 0 a c' a').1 (keepE 0 a c' a').2 ∧ GX [b] w ((w.setCell ⟨b, 2, none⟩ (.int .i64 c')).setCell ⟨b, 3, none⟩ (.int .i64 a'))) := Lib.hid ⟨by
      unfold ScB
      rw [heap_setCell_any _ b 3 _ _ _ _ (heap_setCell_any _ b 2 _ _ _ _ H.out)]; rfl, ((GX.refl [b] w).set (by simp) _ _).set (by simp) _ _⟩
    go_enter Tryz.func27, Tryz.ntmps27
    go_wp2_with fail
    go_end0
    exact ⟨rfl, HX.out⟩
  · have g1 : decide (c = 0) = false := by simpa using hc
    have HX : Hid (ScB w b s p (keepE c a c' a').1 (keepE c a c' a').2) := Lib.hid (by unfold keepE; rw [if_neg hc]; exact H.out)
    go_enter Tryz.func27, Tryz.ntmps27
    go_wp2_with fail
    go_end0
    exact ⟨rfl, HX.out, GX.refl _ _⟩
theorem u8_eq (v x : UInt8) : ((v.toNat : Int) == (x.toNat : Int)) = (v == x) := by
  by_cases h : v = x
  · subst h; simp
  · have h1 : ¬ ((v.toNat : Int) = (x.toNat : Int)) := fun e => h (UInt8.toNat_inj.1 (by omega))
    have e1 : ((v.toNat : Int) == (x.toNat : Int)) = false := by simpa using h1
    have e2 : (v == x) = false := by simpa using h
    rw [e1, e2]
def isB (s : Txt) (p : Nat) (c : UInt8) : Bool := decide (p < s.length) && (gB s p == c)
set_option maxRecDepth 100000 in
theorem is_any (b : Nat) (s : Txt) (p : Nat) (c a : Int) (x : UInt8) (w : World) (h : ScB w b s p c a) :
    Calls Tryz.prog 51 #[.pointer (some ⟨b, 0, none⟩), .int .u8 x.toNat] w fun e w' => e = .returned (.bool (isB s p x)) ∧ Q w w' := by
  obtain ⟨x0, x1, _, _⟩ := h.c
  have k0 : ∀ m : QW w, m.val.cell? ⟨b, 0, none⟩ = some (.string ⟨s.toArray⟩) := fun m => m.cell x0
  have k1 : ∀ m : QW w, m.val.cell? ⟨b, 1, none⟩ = some (.int .i64 (p : Int)) := fun m => m.cell x1
  clear h x0 x1
  by_cases hlt : p < s.length
  · have hd : decide (p < s.length) = true := by simpa using hlt
    obtain ⟨v, hv⟩ : ∃ v, gB s p = v := ⟨_, rfl⟩
    have HX : Hid (isB s p x = (v == x)) := Lib.hid (by unfold isB; rw [hd, hv]; rfl)
    go_enter Tryz.func51, Tryz.ntmps51
    go_upto_region 1 with (fail)
    refine wp_region_q (by kernel_rfl) (by kernel_rfl) ?_
    (repeat (go_big_quiet_step (fail)))
    refine wpQuiet_nil ?_
    rintro wb ⟨mb, hmb⟩
    have HQ : Hid (Q w wb) := Lib.hid (by rw [hmb]; exact mb.le)
    clear k0 k1 hmb hv
    go_wp2_with fail
    go_ret
    exact ⟨by rw [HX.out]; rw [← u8_eq]; rfl, HQ.out⟩
  · have hd : decide (p < s.length) = false := by simpa using hlt
    have HX : Hid (isB s p x = false) := Lib.hid (by unfold isB; rw [hd]; rfl)
    go_enter Tryz.func51, Tryz.ntmps51
    go_upto_region 1 with (fail)
    refine wp_region_q (by kernel_rfl) (by kernel_rfl) ?_
    (repeat (go_big_quiet_step (fail)))
    refine wpQuiet_nil ?_
    rintro wb ⟨mb, hmb⟩
    have HQ : Hid (Q w wb) := Lib.hid (by rw [hmb]; exact mb.le)
    clear k0 k1 hmb
    go_wp2_with fail
    go_ret
    exact ⟨by rw [HX.out]; rfl, HQ.out⟩
theorem want_any (b : Nat) (s : Txt) (p : Nat) (c a : Int) (x : UInt8) (w : World) (h : ScB w b s p c a) (hp : p ≤ 1000000) :
    Calls Tryz.prog 52 #[.pointer (some ⟨b, 0, none⟩), .int .u8 x.toNat] w fun e w' => e = .returned (.tuple #[]) ∧ GX [b] w w' ∧
      if isB s p x = true then ScB w' b s (p + 1) c a else ScB w' b s p (keepE c a 54 p).1 (keepE c a 54 p).2 := by
  have HIs := Lib.hid (is_any b s p c a x w h)
  have H := Lib.hid h
  clear h
  obtain ⟨r, hr⟩ : ∃ r, isB s p x = r := ⟨_, rfl⟩
  rw [hr] at HIs
  rw [hr]
  clear hr
  go_enter Tryz.func52, Tryz.ntmps52
  go_wp2_with fail
  refine HIs.out.mono ?_
  rintro e w1 ⟨rfl, hq1⟩
  have HQ1 := Lib.hid hq1
  have H1 := Lib.hid (H.out.q hq1)
  have x1 := (H.out.q hq1).c.2.1
  have f1 := (H.out.q hq1).f 1
  clear hq1 HIs
  cases r with
  | true =>
    have HX : Hid (ScB (w1.setCell ⟨b, 1, none⟩ (.int .i64 ((p : Int) + 1))) b s (p + 1) c a ∧ GX [b] w (w1.setCell ⟨b, 1, none⟩ (.int .i64 ((p : Int) + 1)))) := Lib.hid ⟨by
      unfold ScB
      rw [heap_setCell_any _ b 1 _ _ _ _ H1.out]; simp, (GX.q HQ1.out).set (by simp) _ _⟩
    go_wp2_with fail
    go_end0
    exact ⟨rfl, HX.out.2, by simpa using HX.out.1⟩
  | false =>
    have HNo := Lib.hid (no_any b s p c a 54 p w1 H1.out)
    go_wp2_with fail
    refine HNo.out.mono ?_
    rintro e w2 ⟨rfl, h2, hg2⟩
    have HX : Hid (ScB w2 b s p (keepE c a 54 p).1 (keepE c a 54 p).2 ∧ GX [b] w w2) := Lib.hid ⟨h2, (GX.q HQ1.out).trans hg2⟩
    clear h2 hg2 x1 f1
    go_wp2_with fail
    refine bodyPost_ret (results_none rfl _ _ _) rfl ?_
    exact ⟨rfl, HX.out.2, by simpa using HX.out.1⟩
end Go.Proofs.YtlhhiiemojhjdaaGreatDoor
set_option linter.unusedVariables false
set_option linter.unusedSimpArgs false
namespace Go.Proofs.YtlhhiiemojhjdaaGreatDoor
open Go Go.RowKit
theorem ScB.set {w : World} {b : Nat} {s : Txt} {p : Nat} {c a : Int} (h : ScB w b s p c a) (q : Nat) : ScB (w.setCell ⟨b, 1, none⟩ (.int .i64 (q : Int))) b s q c a := by
  unfold ScB
  rw [heap_setCell_any _ b 1 _ _ _ _ h]; simp
def skAt (s : Txt) (p : Nat) : Txt := skipJ (s.drop p)
theorem sk_step {s : Txt} {p : Nat} (h : p < s.length) (hb : wsB (gB s p) = true) : skAt s (p + 1) = skAt s p := by
  unfold skAt skipJ
  rw [drop_at h, List.dropWhile_cons_of_pos hb]
theorem sk_stop {s : Txt} {p : Nat} (h : p < s.length) (hb : wsB (gB s p) = false) : skAt s p = s.drop p := by
  unfold skAt skipJ
  rw [drop_at h, List.dropWhile_cons_of_neg (by simp [hb])]
theorem sk_end {s : Txt} {p : Nat} (h : s.length ≤ p) : skAt s p = s.drop p := by
  unfold skAt skipJ
  rw [List.drop_of_length_le h]; rfl
def BlkP (b : Nat) (s : Txt) (p : Nat) (c a : Int) (w : World) (e : Ending) (w' : World) : Prop := e = .returned (.tuple #[]) ∧ GX [b] w w' ∧ ∃ q, p ≤ q ∧ (q ≤ p ∨ q ≤ s.length) ∧ s.drop q = skAt s p ∧ ScB w' b s q c a
set_option maxRecDepth 100000 in
theorem rblanks_any (b : Nat) (s : Txt) (p : Nat) (c a : Int) (w : World) (h : ScB w b s p c a) (hp : p ≤ 1000000000) (hl : s.length ≤ 1000000000) :
    Calls Tryz.prog 25 #[.pointer (some ⟨b, 0, none⟩)] w (BlkP b s p c a w) := by
  have H := Lib.hid h
  clear h
  go_enter Tryz.func25, Tryz.ntmps25
  go_wp2_with fail
  go_loopg [] (s.length + p + 1) (fun gk wx => ∃ q : Nat, s.length + p - q < gk ∧ p ≤ q ∧ (q ≤ p ∨ q ≤ s.length) ∧ Hid (skAt s q = skAt s p ∧ ScB wx b s q c a ∧ GX [b] w wx))
  case atStart => exact ⟨p, by omega, Nat.le_refl _, .inl (Nat.le_refl _), Lib.hid ⟨rfl, H.out, GX.refl _ _⟩⟩
  case round =>
    obtain ⟨q, hg, hpq, hql, HI⟩ := hrel
    rename World => wa
    obtain ⟨g', rfl⟩ : ∃ g', gk = g' + 1 := ⟨gk - 1, by omega⟩
    obtain ⟨x0, x1, _, _⟩ := HI.out.2.1.c
    have k0 : ∀ m : QW wa, m.val.cell? ⟨b, 0, none⟩ = some (.string ⟨s.toArray⟩) := fun m => m.cell x0
    have k1 : ∀ m : QW wa, m.val.cell? ⟨b, 1, none⟩ = some (.int .i64 (q : Int)) := fun m => m.cell x1
    clear x0 x1
    by_cases hlt : q < s.length
    · have hd : decide (q < s.length) = true := by simpa using hlt
      obtain ⟨v, hv⟩ : ∃ v, gB s q = v := ⟨_, rfl⟩
      by_cases hw : v = 32 ∨ v = 9 ∨ v = 10 ∨ v = 13
      · have HS := Lib.hid (sk_step (s := s) hlt (by rw [hv]; rcases hw with rfl | rfl | rfl | rfl <;> rfl))
        rcases hw with rfl | rfl | rfl | rfl
        all_goals
          go_upto_region 0 with (fail)
          refine wp_region_q (by kernel_rfl) (by kernel_rfl) ?_
          (repeat (go_big_quiet_step (fail)))
          refine wpQuiet_nil ?_
          rintro wb ⟨mb, hmb⟩
          have hqb : Q wa wb := by rw [hmb]; exact mb.le
          have hb1 := HI.out.2.1.q hqb
          obtain ⟨-, y1, -, -⟩ := hb1.c
          have f1 := hb1.f 1
          have HN : Hid (skAt s (q + 1) = skAt s p ∧ ScB (wb.setCell ⟨b, 1, none⟩ (.int .i64 ((q : Int) + 1))) b s (q + 1) c a ∧ GX [b] w (wb.setCell ⟨b, 1, none⟩ (.int .i64 ((q : Int) + 1)))) := Lib.hid ⟨HS.out.trans HI.out.1, by have := hb1.set (q + 1); simpa using this, (HI.out.2.2.trans (GX.q hqb)).set (by simp) _ _⟩
          clear mb hmb hqb hb1 k0 k1 HI
          go_wp2_with fail
          go_roundg g'
          case measure => omega
          case rel => exact ⟨q + 1, by omega, by omega, by omega, HN⟩
      · have hn : ¬ (v.toNat : Int) = 32 ∧ ¬ (v.toNat : Int) = 9 ∧ ¬ (v.toNat : Int) = 10 ∧ ¬ (v.toNat : Int) = 13 := by
          refine ⟨fun h => hw (.inl ?_), fun h => hw (.inr (.inl ?_)), fun h => hw (.inr (.inr (.inl ?_))), fun h => hw (.inr (.inr (.inr ?_)))⟩
          · exact UInt8.toNat_inj.1 (by simpa using (by omega : v.toNat = 32))
          · exact UInt8.toNat_inj.1 (by simpa using (by omega : v.toNat = 9))
          · exact UInt8.toNat_inj.1 (by simpa using (by omega : v.toNat = 10))
          · exact UInt8.toNat_inj.1 (by simpa using (by omega : v.toNat = 13))
        obtain ⟨n1, n2, n3, n4⟩ := hn
        have g1 : (((v.toNat : Int)) == 32) = false := by simpa using n1
        have g2 : (((v.toNat : Int)) == 9) = false := by simpa using n2
        have g3 : (((v.toNat : Int)) == 10) = false := by simpa using n3
        have g4 : (((v.toNat : Int)) == 13) = false := by simpa using n4
        have HS : Hid (skAt s q = s.drop q) := Lib.hid (sk_stop hlt (by
          rw [hv]; unfold wsB
          simp only [Bool.or_eq_false_iff, beq_eq_false_iff_ne, ne_eq]
          exact ⟨⟨⟨fun h => hw (.inl h), fun h => hw (.inr (.inl h))⟩, fun h => hw (.inr (.inr (.inl h)))⟩, fun h => hw (.inr (.inr (.inr h)))⟩))
        clear hw
        go_upto_region 0 with (fail)
        refine wp_region_q (by kernel_rfl) (by kernel_rfl) ?_
        (repeat (go_big_quiet_step (fail)))
        refine wpQuiet_nil ?_
        rintro wb ⟨mb, hmb⟩
        have HX : Hid (BlkP b s p c a w (.returned (.tuple #[])) wb) := Lib.hid (by
          have hqb : Q wa wb := by rw [hmb]; exact mb.le
          exact ⟨rfl, HI.out.2.2.trans (GX.q hqb), q, hpq, hql, by rw [← HS.out]; exact HI.out.1, HI.out.2.1.q hqb⟩)
        clear mb hmb k0 k1 HI
        go_wp2_with fail
        refine bodyPost_ret (results_none rfl _ _ _) rfl ?_
        exact HX.out
    · have hd : decide (q < s.length) = false := by simpa using hlt
      have HS : Hid (skAt s q = s.drop q) := Lib.hid (sk_end (by omega))
      go_upto_region 0 with (fail)
      refine wp_region_q (by kernel_rfl) (by kernel_rfl) ?_
      (repeat (go_big_quiet_step (fail)))
      refine wpQuiet_nil ?_
      rintro wb ⟨mb, hmb⟩
      have HX : Hid (BlkP b s p c a w (.returned (.tuple #[])) wb) := Lib.hid (by
        have hqb : Q wa wb := by rw [hmb]; exact mb.le
        exact ⟨rfl, HI.out.2.2.trans (GX.q hqb), q, hpq, hql, by rw [← HS.out]; exact HI.out.1, HI.out.2.1.q hqb⟩)
      clear mb hmb k0 k1 HI
      go_wp2_with fail
      refine bodyPost_ret (results_none rfl _ _ _) rfl ?_
      exact HX.out
end Go.Proofs.YtlhhiiemojhjdaaGreatDoor
set_option linter.unusedVariables false
set_option linter.unusedSimpArgs false
namespace Go.Proofs.YtlhhiiemojhjdaaGreatDoor
open Go Go.RowKit
def UnR (b : Nat) (s : Txt) (a : Int) (r : PR Unit) (w w' : World) : Prop := GX [b] w w' ∧
  match r with
  | .ok _ t => ∃ q, q ≤ s.length ∧ s.drop q = t ∧ ScB w' b s q 0 a
  | .bad c n => ∃ q, q ≤ s.length ∧ (c ≠ 0 ∧ s.length - n ≤ q) ∧ ScB w' b s q (c : Int) ((s.length - n : Nat) : Int)
def UnP (b : Nat) (s : Txt) (a : Int) (r : PR Unit) (w : World) (e : Ending) (w' : World) : Prop := e = .returned (.tuple #[]) ∧ UnR b s a r w w'
theorem is_iff (s : Txt) (p : Nat) (x : UInt8) : isB s p x = true ↔ p < s.length ∧ gB s p = x := by
  unfold isB; simp
theorem take_is {s : Txt} {p : Nat} {x : UInt8} (h : isB s p x = true) : takeR x (s.drop p) = .ok () (s.drop (p + 1)) := by
  obtain ⟨h1, h2⟩ := (is_iff s p x).1 h
  rw [take_drop x h1, if_pos h2]
theorem take_isnt {s : Txt} {p : Nat} {x : UInt8} (h : isB s p x = false) (hp : p ≤ s.length) : takeR x (s.drop p) = .bad 54 (s.length - p) := by
  by_cases h1 : p < s.length
  · rw [take_drop x h1, if_neg (fun e => by rw [(is_iff s p x).2 ⟨h1, e⟩] at h; cases h)]
  · rw [take_end x (by omega), show s.length - p = 0 by omega]
theorem is_hd {s : Txt} {p : Nat} {x : UInt8} (hx : x ≠ 0) : isB s p x = decide (hdB (s.drop p) = x) := by
  by_cases h1 : p < s.length
  · rw [hd_drop h1]; unfold isB
    by_cases hh : gB s p = x <;> simp [h1, hh]
  · rw [hd_drop_end (by omega)]; unfold isB; simp [h1, hx.symm]
def WdSt (b : Nat) (s : Txt) (a : Int) (W : Txt) (r : PR Unit) (k : Nat) (w wx : World) : Prop := GX [b] w wx ∧
  ((∃ q, q ≤ s.length ∧ wordR (W.drop k) (s.drop q) = r ∧ ScB wx b s q 0 a) ∨ ∃ n q c, q ≤ s.length ∧ r = .bad c n ∧ (c ≠ 0 ∧ s.length - n ≤ q) ∧ ScB wx b s q (c : Int) ((s.length - n : Nat) : Int))
theorem word_at (W l : Txt) (k : Nat) (h : k < W.length) : wordR (W.drop k) l = (takeR (gB W k) l).bind fun _ t => wordR (W.drop (k + 1)) t := by
  rw [drop_at h, wordR]
set_option maxRecDepth 100000 in
theorem rword_any (b : Nat) (s W : Txt) (p : Nat) (a : Int) (w : World) (h : ScB w b s p 0 a) (hp : p ≤ s.length) (hl : s.length ≤ 900000) (hW : W.length ≤ 10) :
    Calls Tryz.prog 39 #[.pointer (some ⟨b, 0, none⟩), .string ⟨W.toArray⟩] w (UnP b s a (wordR W (s.drop p)) w) := by
  obtain ⟨r, hr⟩ : ∃ r, wordR W (s.drop p) = r := ⟨_, rfl⟩
  rw [hr]
  have HS0 : Hid (WdSt b s a W r 0 w w) := Lib.hid ⟨GX.refl _ _, .inl ⟨p, hp, by rw [List.drop_zero]; exact hr, h⟩⟩
  have HL := Lib.hid hl
  clear h hr
  go_enter Tryz.func39, Tryz.ntmps39
  go_wp2_with fail
  go_loopw [4] (fun i wx => ∃ k : Nat, k ≤ W.length ∧ i = .int .i64 (k : Int) ∧ Hid (WdSt b s a W r k w wx)) (fun i _ => W.length - (intOf i).toNat)
  case atStart => exact ⟨0, by omega, rfl, HS0⟩
  case round =>
    obtain ⟨k, hk, rfl, HI⟩ := hrel
    rename World => wa
    by_cases hlt : k < W.length
    · have hd : decide (k < W.length) = true := by simpa using hlt
      obtain ⟨hg, hst⟩ := HI.out
      rcases hst with ⟨q, hq, hr, hs⟩ | ⟨n, q, c, hq, hr, hc0, hs⟩
      · obtain ⟨-, -, y2, -⟩ := hs.c
        obtain ⟨v, hv⟩ : ∃ v, gB W k = v := ⟨_, rfl⟩
        rw [word_at W _ k hlt, hv] at hr
        have HWt := Lib.hid (want_any b s q 0 a v wa hs (by have := HL.out; omega))
        have HR := Lib.hid hr
        have HG := Lib.hid hg
        clear hr hs hg HI
        go_wp2_with fail
        refine HWt.out.mono ?_
        rintro e wb ⟨rfl, hgb, hcase⟩
        have HN : Hid (WdSt b s a W r (k + 1) w wb) := Lib.hid (by
          refine ⟨HG.out.trans hgb, ?_⟩
          cases hi : isB s q v with
          | true =>
            rw [hi] at hcase
            have hcase : ScB wb b s (q + 1) 0 a := by simpa using hcase
            have hql := ((is_iff s q v).1 hi).1
            exact .inl ⟨q + 1, by omega, by rw [← HR.out, take_is hi]; rfl, hcase⟩
          | false =>
            rw [hi] at hcase
            have hcase : ScB wb b s q 54 (q : Int) := by simpa [keepE] using hcase
            refine .inr ⟨s.length - q, q, 54, hq, by rw [← HR.out, take_isnt hi hq]; rfl, ⟨by decide, by omega⟩, ?_⟩
            rw [show s.length - (s.length - q) = q by omega]; exact hcase)
        clear hgb hcase HWt y2
        go_wp2_with fail
        go_roundw
        case rel => exact ⟨k + 1, by omega, by go_num, HN⟩
        case measure => simp [intOf]; omega
      · obtain ⟨-, -, y2, -⟩ := hs.c
        have hcz : (((c : Nat) : Int) == 0) = false := by simp; omega
        have HX : Hid (UnP b s a r w (.returned (.tuple #[])) wa) := Lib.hid ⟨rfl, hg, by rw [hr]; exact ⟨q, hq, hc0, hs⟩⟩
        clear hs hr hg HI hc0
        go_wp2_with fail
        refine bodyPost_ret (results_none rfl _ _ _) rfl ?_
        exact HX.out
    · have hd : decide (k < W.length) = false := by simpa using hlt
      have HX : Hid (UnP b s a r w (.returned (.tuple #[])) wa) := Lib.hid (by
        obtain ⟨hg, hst⟩ := HI.out
        refine ⟨rfl, hg, ?_⟩
        rcases hst with ⟨q, hq, hr, hs⟩ | ⟨n, q, c, hq, hr, hc0, hs⟩
        · rw [List.drop_of_length_le (by omega), wordR] at hr
          rw [← hr]; exact ⟨q, hq, rfl, hs⟩
        · rw [hr]; exact ⟨q, hq, hc0, hs⟩)
      clear HI
      go_wp2_with fail
      refine bodyPost_ret (results_none rfl _ _ _) rfl ?_
      exact HX.out
set_option maxRecDepth 100000 in
set_option maxHeartbeats 4000000 in
theorem rdigits_any (b : Nat) (s : Txt) (p : Nat) (a : Int) (w : World) (h : ScB w b s p 0 a) (hp : p ≤ s.length) (hl : s.length ≤ 1000000000) :
    Calls Tryz.prog 55 #[.pointer (some ⟨b, 0, none⟩)] w (UnP b s a (digR (s.drop p)) w) := by
  obtain ⟨r, hr⟩ : ∃ r, digR (s.drop p) = r := ⟨_, rfl⟩
  have HR := Lib.hid hr
  rw [hr]
  have H := Lib.hid h
  obtain ⟨-, x1, -, -⟩ := h.c
  clear h hr
  go_enter Tryz.func55, Tryz.ntmps55
  go_wp2_with fail
  clear x1
  go_loopg [] (s.length - p + 1) (fun gk wx => ∃ q : Nat, s.length - q < gk ∧ p ≤ q ∧ q ≤ s.length ∧ Hid (tenAt s q = tenAt s p ∧ (p < q → tenJ (hdB (s.drop p)) = true) ∧ ScB wx b s q 0 a ∧ GX [b] w wx))
  case atStart => exact ⟨p, by omega, Nat.le_refl _, hp, Lib.hid ⟨rfl, fun h => absurd h (Nat.lt_irrefl _), H.out, GX.refl _ _⟩⟩
  case round =>
    obtain ⟨q, hg, hpq, hql, HI⟩ := hrel
    rename World => wa
    obtain ⟨g', rfl⟩ : ∃ g', gk = g' + 1 := ⟨gk - 1, by omega⟩
    obtain ⟨x0, x1, _, _⟩ := HI.out.2.2.1.c
    have k0 : ∀ m : QW wa, m.val.cell? ⟨b, 0, none⟩ = some (.string ⟨s.toArray⟩) := fun m => m.cell x0
    have k1 : ∀ m : QW wa, m.val.cell? ⟨b, 1, none⟩ = some (.int .i64 (q : Int)) := fun m => m.cell x1
    clear x0 x1
    have HEnd : Hid (∀ wb, Q wa wb → tenJ (hdB (s.drop q)) = false → (q = p → r = .bad 54 (s.length - p) ∧ ScB wb b s p 0 a ∧ GX [b] w wb) ∧ (q ≠ p → UnP b s a r w (.returned (.tuple #[])) wb)) := Lib.hid (fun wb hq ht => by
      obtain ⟨h1, h2, h3, h4⟩ := HI.out
      constructor
      · intro e
        subst e
        refine ⟨?_, h3.q hq, h4.trans (GX.q hq)⟩
        rw [← HR.out]; unfold digR
        rw [if_neg (by rw [ht]; decide), List.length_drop]
      · intro hne
        refine ⟨rfl, h4.trans (GX.q hq), ?_⟩
        rw [← HR.out]; unfold digR
        rw [if_pos (h2 (by omega))]
        exact ⟨q, hql, by rw [← ten_stop ht, h1]; rfl, h3.q hq⟩)
    by_cases hlt : q < s.length
    · have hd : decide (q < s.length) = true := by simpa using hlt
      obtain ⟨v, hv⟩ : ∃ v, gB s q = v := ⟨_, rfl⟩
      have hh : hdB (s.drop q) = v := by rw [hd_drop hlt, hv]
      by_cases hu : tenJ v = true
      · have hu2 := (ten_iff v).1 hu
        have st := ten_step (s := s) (p := q) (by rw [hh]; exact hu)
        have g1 : decide ((48 : Int) ≤ (v.toNat : Int)) = true := by simp; omega
        have g2 : decide ((v.toNat : Int) ≤ 57) = true := by simp; omega
        have HT : Hid (tenAt s (q + 1) = tenAt s p ∧ (p < q + 1 → tenJ (hdB (s.drop p)) = true)) := Lib.hid ⟨st.2.trans HI.out.1, fun _ => by
          by_cases e : p = q
          · rw [e, hh]; exact hu
          · exact HI.out.2.1 (by omega)⟩
        clear hu hu2 st hh HEnd
        go_upto_region 1 with (fail)
        refine wp_region_q (by kernel_rfl) (by kernel_rfl) ?_
        (repeat (go_big_quiet_step (fail)))
        refine wpQuiet_nil ?_
        rintro wb ⟨mb, hmb⟩
        have hqb : Q wa wb := by rw [hmb]; exact mb.le
        have hb1 := HI.out.2.2.1.q hqb
        obtain ⟨-, y1, -, -⟩ := hb1.c
        have f1 := hb1.f 1
        have HN : Hid (tenAt s (q + 1) = tenAt s p ∧ (p < q + 1 → tenJ (hdB (s.drop p)) = true) ∧ ScB (wb.setCell ⟨b, 1, none⟩ (.int .i64 ((q : Int) + 1))) b s (q + 1) 0 a ∧ GX [b] w (wb.setCell ⟨b, 1, none⟩ (.int .i64 ((q : Int) + 1)))) := Lib.hid ⟨HT.out.1, HT.out.2, by have := hb1.set (q + 1); simpa using this, (HI.out.2.2.2.trans (GX.q hqb)).set (by simp) _ _⟩
        clear mb hmb hqb hb1 k0 k1 HI g1 g2
        go_wp2_with fail
        go_roundg g'
        case measure => omega
        case rel => exact ⟨q + 1, by omega, by omega, by omega, HN⟩
      · have hu2 : ¬ (48 ≤ v.toNat ∧ v.toNat ≤ 57) := fun h => hu ((ten_iff v).2 h)
        have HE2 := Lib.hid (fun wb hq => HEnd.out wb hq (by rw [hh]; simpa using hu))
        clear HEnd hh hu
        by_cases h48 : 48 ≤ v.toNat
        case' pos =>
          have g1 : decide ((48 : Int) ≤ (v.toNat : Int)) = true := by simp; omega
          have g2 : decide ((v.toNat : Int) ≤ 57) = false := by simp; omega
        case' neg =>
          have g1 : decide ((48 : Int) ≤ (v.toNat : Int)) = false := by simp; omega
        all_goals
          clear hu2 h48
          go_upto_region 1 with (fail)
          refine wp_region_q (by kernel_rfl) (by kernel_rfl) ?_
          (repeat (go_big_quiet_step (fail)))
          refine wpQuiet_nil ?_
          rintro wb ⟨mb, hmb⟩
          have hqb : Q wa wb := by rw [hmb]; exact mb.le
          obtain ⟨-, y1, -, -⟩ := (HI.out.2.2.1.q hqb).c
          have HE3 := Lib.hid (HE2.out wb hqb)
          clear mb hmb hqb k0 k1 HI HE2 g1
          by_cases hqp : q = p
          · obtain ⟨hb1, hb2, hb3⟩ := HE3.out.1 hqp
            subst hqp
            have HNo := Lib.hid (no_any b s q 0 a 54 q wb hb2)
            have HB := Lib.hid (⟨hb1, hb3⟩ : _ ∧ _)
            clear hb1 hb2 hb3 HE3
            go_wp2_with fail
            refine HNo.out.mono ?_
            rintro e wc ⟨rfl, hs2, hg2⟩
            have HX : Hid (UnP b s a r w (.returned (.tuple #[])) wc) := Lib.hid ⟨rfl, HB.out.2.trans hg2, by
              rw [HB.out.1]
              refine ⟨q, hql, ⟨by decide, by omega⟩, ?_⟩
              rw [show s.length - (s.length - q) = q by omega]
              simpa [keepE] using hs2⟩
            clear hs2 hg2
            go_wp2_with fail
            refine bodyPost_ret (results_none rfl _ _ _) rfl ?_
            exact HX.out
          · have HX := Lib.hid (HE3.out.2 hqp)
            have hqpd : (((q : Int)) == (p : Int)) = false := by simp; omega
            clear HE3
            go_wp2_with fail
            refine bodyPost_ret (results_none rfl _ _ _) rfl ?_
            exact HX.out
    · have hd : decide (q < s.length) = false := by simpa using hlt
      have HE2 := Lib.hid (fun wb hq => HEnd.out wb hq (by rw [hd_drop_end (by omega)]; rfl))
      clear HEnd
      go_upto_region 1 with (fail)
      refine wp_region_q (by kernel_rfl) (by kernel_rfl) ?_
      (repeat (go_big_quiet_step (fail)))
      refine wpQuiet_nil ?_
      rintro wb ⟨mb, hmb⟩
      have hqb : Q wa wb := by rw [hmb]; exact mb.le
      obtain ⟨-, y1, -, -⟩ := (HI.out.2.2.1.q hqb).c
      have HE3 := Lib.hid (HE2.out wb hqb)
      clear mb hmb hqb k0 k1 HI HE2
      by_cases hqp : q = p
      · obtain ⟨hb1, hb2, hb3⟩ := HE3.out.1 hqp
        subst hqp
        have HNo := Lib.hid (no_any b s q 0 a 54 q wb hb2)
        have HB := Lib.hid (⟨hb1, hb3⟩ : _ ∧ _)
        clear hb1 hb2 hb3 HE3
        go_wp2_with fail
        refine HNo.out.mono ?_
        rintro e wc ⟨rfl, hs2, hg2⟩
        have HX : Hid (UnP b s a r w (.returned (.tuple #[])) wc) := Lib.hid ⟨rfl, HB.out.2.trans hg2, by
          rw [HB.out.1]
          refine ⟨q, hql, ⟨by decide, by omega⟩, ?_⟩
          rw [show s.length - (s.length - q) = q by omega]
          simpa [keepE] using hs2⟩
        clear hs2 hg2
        go_wp2_with fail
        refine bodyPost_ret (results_none rfl _ _ _) rfl ?_
        exact HX.out
      · have HX := Lib.hid (HE3.out.2 hqp)
        have hqpd : (((q : Int)) == (p : Int)) = false := by simp; omega
        clear HE3
        go_wp2_with fail
        refine bodyPost_ret (results_none rfl _ _ _) rfl ?_
        exact HX.out
end Go.Proofs.YtlhhiiemojhjdaaGreatDoor
