/- Texts of this proof, laid into one: JnM, JnN, JnO, Err, JnP, JoD, Ints, JoE. -/
import Derived.Test.YtjbdjkpbkjkdpaaGreatDoorMo08
import Derived.Outline
import Derived.LaidEql
import Derived.Stop.Asserts
import Derived.RowKitTokens
import Derived.ChangeSlices
/- Plain laws: a half that holds records is read as it was written. -/
set_option linter.unusedVariables false
set_option linter.unusedSimpArgs false
namespace Go.Proofs.YtjbdjkpbkjkdpaaGreatDoor
open Go Go.RowKit
/-- A half: its head, its records, behind them no record. -/
def HalfIs (h : List UInt8) (half e : Nat) (recs : List (List UInt8)) : Prop :=
  ∃ rest, h = headL e ++ (packsL e 0 recs).flatten ++ rest ∧ h.length = 64 * half ∧ 1 + wantS recs ≤ half ∧ ∀ c r, rest = c :: r → c ≠ 1
theorem packs_flat_len (e : Nat) (ls : List (List UInt8)) : ∀ k, ((packsL e k ls).flatten).length = 64 * wantS ls := by
  induction ls with
  | nil => intro k; rfl
  | cons p r ih => intro k; rw [packsL, List.flatten_cons, List.length_append, ih, packL_len64, wantS_cons]; omega
theorem unp_one {s : List UInt8} {e n : Int} (h : UnpOk s e n) : ∃ r, s = 1 :: r := by
  obtain ⟨_, h24, h1, _⟩ := h
  cases s with
  | nil => simp at h24
  | cons c r =>
    refine ⟨r, ?_⟩
    congr 1
    have : c.toNat = 1 := h1
    exact UInt8.toNat_inj.1 this
theorem recGo_packs {h : List UInt8} {e half : Nat} (he : e ≤ 4611686018427387904) {rest : List UInt8} (hr : ∀ c r, rest = c :: r → c ≠ 1) (recs : List (List UInt8)) : ∀ (f k next : Nat), (∀ p ∈ recs, p.length ≤ 60000) → k + recs.length ≤ 4294967295 →
    sub h (next * 64) h.length = (packsL e k recs).flatten ++ rest → next + wantS recs ≤ half → half ≤ next + f → recGo h e half f next k = (recs, next + wantS recs) := by
  induction recs with
  | nil =>
    intro f k next _ _ hs hn hf
    cases f with
    | zero => rfl
    | succ f =>
      rw [recGo_succ, if_neg]
      · rfl
      · rintro ⟨_, hu⟩
        obtain ⟨r, e1⟩ := unp_one hu
        rw [hs] at e1
        exact hr 1 r e1 rfl
  | cons p r ih =>
    intro f k next hp hk hs hn hf
    rw [wantS_cons] at hn
    have hw : 1 ≤ wantN p := by unfold wantN; omega
    obtain ⟨f, rfl⟩ : ∃ g, f = g + 1 := ⟨f - 1, by omega⟩
    have hpl := hp p List.mem_cons_self
    rw [List.length_cons] at hk
    have hs2 : sub h (next * 64) h.length = packL (e : Int) ((k + 1 : Nat) : Int) p ++ ((packsL e (k + 1) r).flatten ++ rest) := by
      rw [hs, packsL, List.flatten_cons, List.append_assoc]
    obtain ⟨hu, hna, hpy⟩ := packL_unp (e : Int) ((k + 1 : Nat) : Int) p ((packsL e (k + 1) r).flatten ++ rest) (decide_eq_true ⟨by omega, by omega, by omega, by omega⟩) hpl
    have hpy2 : payL (sub h (next * 64) h.length) = p := by rw [hs2]; unfold payL; rw [hna]; exact hpy
    have hend : (endsN (nAt (sub h (next * 64) h.length) 4)).toNat / 64 = wantN p := by
      rw [hs2, hna]; unfold endsN wantN; omega
    rw [recGo_succ, if_pos ⟨by omega, by rw [hs2]; exact hu⟩, hpy2, hend]
    have hdr : sub h ((next + wantN p) * 64) h.length = (packsL e (k + 1) r).flatten ++ rest := by
      rw [sub_drop] at hs2 ⊢
      rw [Nat.add_mul, Nat.mul_comm (wantN p), ← List.drop_drop, hs2, ← packL_len64 (e : Int) ((k + 1 : Nat) : Int) p, List.drop_left]
    rw [ih f (k + 1) (next + wantN p) (fun q hq => hp q (List.mem_cons_of_mem _ hq)) (by omega) hdr (by omega) (by omega), wantS_cons, Nat.add_assoc]
theorem recGo_half {h : List UInt8} {e half : Nat} {recs : List (List UInt8)} (hh : HalfIs h half e recs) (he : e ≤ 4611686018427387904) (hp : ∀ p ∈ recs, p.length ≤ 60000) (hk : recs.length ≤ 4294967295) : recGo h e half half 1 0 = (recs, 1 + wantS recs) := by
  obtain ⟨rest, e1, e2, e3, e4⟩ := hh
  refine recGo_packs he e4 recs half 0 1 hp (by omega) ?_ e3 (by omega)
  rw [sub_drop, e1, List.append_assoc, show 1 * 64 = (headL e).length by rw [headL_len], List.drop_left]
theorem eGo_cons (c : UInt8) (r : List UInt8) (e : Nat) (h : e ≤ 18014398509481984) : eGo (c :: r) e = eGo r (e * 256 + c.toNat) := by
  conv => lhs; unfold eGo
  rw [if_neg (by omega)]
theorem byN (x : Nat) : (byteOf ((x % 256 : Nat) : Int)).toNat = x % 256 := by
  have := byteOf_int ((x % 256 : Nat) : Int) (by omega) (by omega)
  omega
theorem dv (e a b c : Nat) (h : a * b = c) : (e : Int) / (a : Int) / (b : Int) % 256 = ((e / c % 256 : Nat) : Int) := by
  rw [← h, ← Nat.div_div_eq_div_mul]; rfl
theorem up256 (e a b : Nat) (h : a = b * 256) : e / a * 256 + e / b % 256 = e / b := by
  rw [h, ← Nat.div_div_eq_div_mul]
  exact Nat.div_add_mod' (e / b) 256
theorem le_div (e a b c : Nat) (he : e ≤ a) (h : a / b ≤ c) : e / b ≤ c := Nat.le_trans (Nat.div_le_div_right he) h
theorem eGo_step (e a b : Nat) (x : Int) (r : List UInt8) (he : e ≤ 4611686018427387904) (h : a = b * 256) (hx : x = ((e / b % 256 : Nat) : Int)) (hb : 4611686018427387904 / a ≤ 18014398509481984) : eGo (byteOf x :: r) (e / a) = eGo r (e / b) := by
  rw [eGo_cons _ _ _ (le_div e _ _ _ he hb), hx, byN, up256 e a b h]
theorem eGo_num (e : Nat) (he : e ≤ 4611686018427387904) : eGo (U32 ((e : Int) / 4294967296) ++ U32 (e : Int)) 0 = some e := by
  have e1 : U32 ((e : Int) / 4294967296) ++ U32 (e : Int) = [byteOf ((e : Int) / 4294967296 / 16777216 % 256), byteOf ((e : Int) / 4294967296 / 65536 % 256), byteOf ((e : Int) / 4294967296 / 256 % 256), byteOf ((e : Int) / 4294967296 % 256), byteOf ((e : Int) / 16777216 % 256), byteOf ((e : Int) / 65536 % 256), byteOf ((e : Int) / 256 % 256), byteOf ((e : Int) % 256)] := rfl
  have e0 : 0 = e / 18446744073709551616 := (Nat.div_eq_of_lt (Nat.lt_of_le_of_lt he (by decide))).symm
  have d1 : (e : Int) / 4294967296 / 16777216 % 256 = ((e / 72057594037927936 % 256 : Nat) : Int) := dv e 4294967296 16777216 _ (by decide)
  have d2 : (e : Int) / 4294967296 / 65536 % 256 = ((e / 281474976710656 % 256 : Nat) : Int) := dv e 4294967296 65536 _ (by decide)
  have d3 : (e : Int) / 4294967296 / 256 % 256 = ((e / 1099511627776 % 256 : Nat) : Int) := dv e 4294967296 256 _ (by decide)
  have d4 : (e : Int) / 4294967296 % 256 = ((e / 4294967296 % 256 : Nat) : Int) := rfl
  have d5 : (e : Int) / 16777216 % 256 = ((e / 16777216 % 256 : Nat) : Int) := rfl
  have d6 : (e : Int) / 65536 % 256 = ((e / 65536 % 256 : Nat) : Int) := rfl
  have d7 : (e : Int) / 256 % 256 = ((e / 256 % 256 : Nat) : Int) := rfl
  have d8 : (e : Int) % 256 = ((e / 1 % 256 : Nat) : Int) := by rw [Nat.div_one]; rfl
  rw [e1, e0,
    eGo_step e 18446744073709551616 72057594037927936 _ _ he (by decide) d1 (by decide),
    eGo_step e 72057594037927936 281474976710656 _ _ he (by decide) d2 (by decide),
    eGo_step e 281474976710656 1099511627776 _ _ he (by decide) d3 (by decide),
    eGo_step e 1099511627776 4294967296 _ _ he (by decide) d4 (by decide),
    eGo_step e 4294967296 16777216 _ _ he (by decide) d5 (by decide),
    eGo_step e 16777216 65536 _ _ he (by decide) d6 (by decide),
    eGo_step e 65536 256 _ _ he (by decide) d7 (by decide),
    eGo_step e 256 1 _ _ he (by decide) d8 (by decide), Nat.div_one]
  rfl
theorem epN_head (e : Nat) (h1 : 1 ≤ e) (he : e ≤ 4611686018427387904) (X : List UInt8) : epN (headL e ++ X) = e := by
  have hr : rightB (e : Int) 0 = true := decide_eq_true ⟨by omega, by omega, by omega, by omega⟩
  have hs1 : sub (headL e ++ X) 12 20 = U32 ((e : Int) / 4294967296) ++ U32 (e : Int) := rfl
  have hs2 : sub (headL e ++ X) 0 64 = headL e := sub_left _ _ _ (headL_len e).symm
  obtain ⟨hu, hna, hpy⟩ := packL_unp (e : Int) 0 magicL [] hr (by decide)
  rw [List.append_nil] at hu hna hpy
  have hh : isHead (headL e) e = true := by
    unfold isHead headL
    have hp : payL (packL (e : Int) 0 magicL) = magicL := by unfold payL; rw [hna]; exact hpy
    rw [decide_eq_true hu, decide_eq_true hp]; rfl
  unfold epN
  rw [hs1, eGo_num e he, hs2]
  simp only [hh, if_true]
theorem epN_zero (X : List UInt8) : epN (blankL ++ X) = 0 := by
  have hs2 : sub (blankL ++ X) 0 64 = blankL := sub_left _ _ _ blankL_len.symm
  unfold epN
  rw [hs2]
  split
  · rfl
  · rename_i e _
    have : isHead blankL e = false := by
      unfold isHead
      have : ¬ UnpOk blankL (e : Int) 0 := fun hu => by
        obtain ⟨r, hr⟩ := unp_one hu
        have : blankL = 0 :: zL 63 := rfl
        rw [this] at hr; injection hr with hr _; revert hr; decide
      rw [decide_eq_false this]; rfl
    rw [if_neg (by rw [this]; decide)]
end Go.Proofs.YtjbdjkpbkjkdpaaGreatDoor
/- Plain laws: a journal on a live disk that holds these records. -/
set_option linter.unusedVariables false
set_option linter.unusedSimpArgs false
namespace Go.Proofs.YtjbdjkpbkjkdpaaGreatDoor
open Go Go.RowKit
structure JInv (j : JrnS) (d : DskS) (recs : List (List UInt8)) : Prop where
  live : Live d
  wait : d.wait = []
  ok : j.Ok
  fits : j.first + 2 * j.half ≤ d.n
  closed : j.closed = false
  many : j.many = recs.length
  next : j.next = 1 + wantS recs
  half : HalfIs (halfL j j.second d j.half) j.half j.epoch recs
  other : epN (halfL j (!j.second) d j.half) < j.epoch
  small : ∀ p ∈ recs, p.length ≤ 60000
/-- Nothing but these sectors has changed. -/
structure OutJ (f half : Nat) (d d' : DskS) : Prop where
  n : d'.n = d.n
  out : ∀ i, ¬ (f ≤ i ∧ i < f + 2 * half) → i < d.n → readL d' i = readL d i
theorem wantN_pos (p : List UInt8) : 1 ≤ wantN p := by unfold wantN; omega
theorem wantS_ge (ls : List (List UInt8)) : ls.length ≤ wantS ls := by
  induction ls with
  | nil => exact Nat.le_refl _
  | cons p r ih => rw [wantS_cons, List.length_cons]; have := wantN_pos p; omega
theorem HalfIs.ep {h : List UInt8} {half e : Nat} {recs : List (List UInt8)} (hh : HalfIs h half e recs) (h1 : 1 ≤ e) (he : e ≤ 4611686018427387904) : epN h = e := by
  obtain ⟨rest, e1, _⟩ := hh
  rw [e1, List.append_assoc]
  exact epN_head e h1 he _
theorem JInv.open {j : JrnS} {d : DskS} {recs : List (List UInt8)} (h : JInv j d recs) : openF j.first j.half d = ⟨j.second, j.epoch, recs, j.next⟩ := by
  have he := h.half.ep h.ok.epoch.1 h.ok.epoch.2
  have ho := h.other
  have hl : recs.length ≤ 4294967295 := by rw [← h.many]; have := h.ok.many; omega
  have hr := recGo_half h.half h.ok.epoch.2 h.small hl
  unfold openF foundOf foundMk
  have e1 : ∀ s, halfL (jrn0 j.first j.half) s d j.half = halfL j s d j.half := fun s => rfl
  rw [e1, e1, h.next]
  cases hs : j.second with
  | true =>
    rw [hs] at he ho hr
    rw [Bool.not_true] at ho
    rw [he, if_pos ho, if_pos ho, hr, decide_eq_true ho]
  | false =>
    rw [hs] at he ho hr
    rw [Bool.not_false] at ho
    rw [he, if_neg (by omega), if_neg (by omega), hr, decide_eq_false (by omega)]
theorem JInv.out {j : JrnS} {d d' : DskS} {recs : List (List UInt8)} {f half : Nat} (h : JInv j d recs) (hl : Live d') (hw : d'.wait = []) (ho : OutJ f half d d') (hd : j.first + 2 * j.half ≤ f ∨ f + 2 * half ≤ j.first) : JInv j d' recs := by
  have e : ∀ s, halfL j s d' j.half = halfL j s d j.half := fun s => half_congr _ fun i hi => ho.out _ (by unfold atJ; split <;> omega) (by have := h.fits; unfold atJ; split <;> omega)
  exact ⟨hl, hw, h.ok, by rw [ho.n]; exact h.fits, h.closed, h.many, h.next, by rw [e]; exact h.half, by rw [e]; exact h.other, h.small⟩
theorem JInv.append {j : JrnS} {d : DskS} {recs : List (List UInt8)} (h : JInv j d recs) (p : List UInt8) (hp : p.length ≤ 60000) (hfit : j.next + wantN p ≤ j.half) :
    appendC j p = 0 ∧ (appendD j p d).2 = 0 ∧ JInv (appendJ j p) (appendD j p d).1 (recs ++ [p]) ∧ OutJ j.first j.half d (appendD j p d).1 := by
  have hc : appendC j p = 0 := by
    unfold appendC
    rw [h.closed, if_neg (by decide), if_neg (by omega)]
  obtain ⟨rest, e1, e2, e3, e4⟩ := h.half
  have hn := h.next
  have hA : (headL j.epoch ++ (packsL j.epoch 0 recs).flatten).length = 64 * j.next := by
    rw [List.length_append, headL_len, packs_flat_len]; omega
  have hR : rest.length + 64 * j.next = 64 * j.half := by rw [← e2, e1, List.length_append, hA]; omega
  obtain ⟨he, hw⟩ := lay_eff (j := j) (sec := j.second) h.live h.fits (k := j.next) (m := wantN p) (wantN_pos p) hfit (s := recL j p) (A := headL j.epoch ++ (packsL j.epoch 0 recs).flatten) (B := rest.take (64 * wantN p)) (C := rest.drop (64 * wantN p)) (recL_len j p)
    (by rw [List.append_assoc _ (rest.take _), List.take_append_drop]; exact e1) hA (by rw [List.length_take]; omega)
  have hD : appendD j p d = layJ j j.second j.next (wantN p) (recL j p) d := by unfold appendD; rw [if_pos hc]
  have hJ : appendJ j p = { j with many := j.many + 1, next := j.next + wantN p } := by unfold appendJ; rw [if_pos hc]
  rw [hD, hJ]
  have hws := wantS_ge (recs ++ [p])
  rw [wantS_snoc, List.length_append, List.length_singleton] at hws
  have hpl := h.ok.place
  have hm := h.many
  refine ⟨hc, he.ok, ⟨he.live, hw, ⟨h.ok.place, h.ok.half, ⟨by have := h.ok.next.1; show 1 ≤ j.next + wantN p; omega, hfit⟩, by show j.many + 1 ≤ 100000; omega, h.ok.epoch⟩, by rw [he.n]; exact h.fits, h.closed, ?_, ?_, ?_, ?_, ?_⟩, ?_⟩
  · show j.many + 1 = (recs ++ [p]).length
    rw [List.length_append, List.length_singleton, hm]
  · show j.next + wantN p = 1 + wantS (recs ++ [p])
    rw [wantS_snoc, hn, Nat.add_assoc]
  · refine ⟨tailC (j.next + wantN p) j.half (rest.drop (64 * wantN p)), ?_, ?_, ?_, ?_⟩
    · refine he.half.trans ?_
      rw [packsL_snoc, List.flatten_append, Nat.zero_add, ← hm]
      have e5 : [packL (j.epoch : Int) ((j.many + 1 : Nat) : Int) p].flatten = recL j p := by simp [recL]
      rw [e5, List.append_assoc (headL j.epoch)]
    · exact halfL_len he.live.ok (by rw [he.n]; exact h.fits) _ (Nat.le_refl _)
    · rw [wantS_snoc]; show 1 + (wantS recs + wantN p) ≤ j.half; omega
    · intro c r e
      rw [tailC_head (by rw [List.length_drop]; omega) c r e]
      decide
  · have e6 : halfL j (!j.second) (layJ j j.second j.next (wantN p) (recL j p) d).1 j.half = halfL j (!j.second) d j.half := half_congr _ fun i hi => he.out _ (by unfold atJ; cases j.second <;> simp <;> omega) (by have := h.fits; unfold atJ; split <;> omega)
    show epN (halfL j (!j.second) (layJ j j.second j.next (wantN p) (recL j p) d).1 j.half) < j.epoch
    rw [e6]
    exact h.other
  · intro q hq
    rcases List.mem_append.1 hq with hq | hq
    · exact h.small q hq
    · rw [List.mem_singleton.1 hq]; exact hp
  · exact ⟨he.n, fun i hi hn => he.out i (fun hx => hi (by revert hx; unfold atJ; split <;> omega)) hn⟩
theorem JInv.reset {j : JrnS} {d : DskS} {recs : List (List UInt8)} (h : JInv j d recs) (ls : List (List UInt8)) (hp : ∀ p ∈ ls, p.length ≤ 60000) (hfit : wantS ls + 1 ≤ j.half) (hee : j.epoch < 4611686018427387904) :
    (resetD j ls d).2 = 0 ∧ JInv (resetJ j ls) (resetD j ls d).1 ls ∧ OutJ j.first j.half d (resetD j ls d).1 := by
  have hl := halfL_len (sec := !j.second) h.live.ok h.fits j.half (Nat.le_refl _)
  obtain ⟨H, hH⟩ : ∃ H, halfL j (!j.second) d j.half = H := ⟨_, rfl⟩
  rw [hH] at hl
  have hpl := h.ok.place
  have hsm : sumM (packsL (j.epoch + 1) 0 ls) = wantS ls := wantS_packs _ _ _
  obtain ⟨he, hw⟩ := anew_eff h.live h.fits (packsL (j.epoch + 1) 0 ls) (fun s hs => (packsL_mem _ _ hp 0 s hs).1) (by rw [hsm]; omega) (A := H.take 64) (B := (H.drop 64).take (64 * wantS ls)) (C := (H.drop 64).drop (64 * wantS ls))
    (by rw [List.append_assoc, List.take_append_drop, List.take_append_drop]; exact hH) (by rw [List.length_take]; omega) (by rw [List.length_take, List.length_drop, hsm]; omega)
  rw [hsm] at he
  have hws := wantS_ge ls
  have e6 : halfL j j.second (resetD j ls d).1 j.half = halfL j j.second d j.half := half_congr _ fun i hi => he.out _ (by unfold atJ; cases j.second <;> simp <;> omega) (by have := h.fits; unfold atJ; split <;> omega)
  refine ⟨he.ok, ⟨he.live, hw, ⟨h.ok.place, h.ok.half, ⟨by show 1 ≤ 1 + wantS ls; omega, by show 1 + wantS ls ≤ j.half; omega⟩, by show ls.length ≤ 100000; omega, by show 1 ≤ j.epoch + 1 ∧ j.epoch + 1 ≤ 4611686018427387904; omega⟩, by rw [show (resetD j ls d).1.n = d.n from he.n]; exact h.fits, h.closed, rfl, rfl, ?_, ?_, hp⟩, ?_⟩
  · refine ⟨tailC (1 + wantS ls) j.half ((H.drop 64).drop (64 * wantS ls)), he.half, ?_, by show 1 + wantS ls ≤ j.half; omega, ?_⟩
    · exact halfL_len he.live.ok (by rw [he.n]; exact h.fits) _ (Nat.le_refl _)
    · intro c r e
      rw [tailC_head (by rw [List.length_drop, List.length_drop]; omega) c r e]
      decide
  · show epN (halfL j (!!j.second) (resetD j ls d).1 j.half) < j.epoch + 1
    rw [Bool.not_not, e6, h.half.ep h.ok.epoch.1 h.ok.epoch.2]
    omega
  · exact ⟨he.n, fun i hi hn => he.out i (fun hx => hi (by revert hx; unfold atJ; split <;> omega)) hn⟩
theorem JInv.format {f half : Nat} {d : DskS} (h : Live d) (hh : 2 ≤ half) (hp : f + 2 * half ≤ d.n) :
    (formatR f half d).2 = 0 ∧ JInv { jrn0 f half with epoch := 1 } (formatR f half d).1 [] ∧ OutJ f half d (formatR f half d).1 := by
  obtain ⟨h1, h2, h3, h4, h5, ⟨C, h6, h7⟩, C2, h8⟩ := format_eff h hh hp
  have hm := h.ok.most
  refine ⟨h1, ⟨h2, h4, ⟨by show f + 2 * half ≤ 8192; omega, hh, ⟨Nat.le_refl _, by show 1 ≤ half; omega⟩, by show 0 ≤ 100000; omega, by show 1 ≤ 1 ∧ 1 ≤ 4611686018427387904; decide⟩, by rw [h3]; exact hp, rfl, rfl, rfl, ?_, ?_, fun p hp => by cases hp⟩, ⟨h3, h5⟩⟩
  · refine ⟨tailC 1 half C, ?_, ?_, by show 1 + 0 ≤ half; omega, fun c r e => by rw [tailC_head (by omega) c r e]; decide⟩
    · refine Eq.trans h6 ?_
      show _ = headL 1 ++ [] ++ tailC 1 half C
      rw [List.append_nil]
    · exact halfL_len (j := jrn0 f half) h2.ok (by rw [h3]; exact hp) half (Nat.le_refl _)
  · show epN (halfL (jrn0 f half) true (formatR f half d).1 half) < 1
    rw [h8, epN_zero]
    decide
end Go.Proofs.YtjbdjkpbkjkdpaaGreatDoor
/- A journal that holds records: the calls. -/
set_option linter.unusedVariables false
set_option linter.unusedSimpArgs false
namespace Go.Proofs.YtjbdjkpbkjkdpaaGreatDoor
open Go Go.RowKit
/-- The journal in memory, on a live disk: where it lies, its epoch, its records. -/
def JR (w0 w : World) (bj bd bp gh f half e : Nat) (d : DskS) (recs : List (List UInt8)) : Prop := ∃ j, JD w0 w bj bd bp gh j d ∧ JInv j d recs ∧ j.first = f ∧ j.half = half ∧ j.epoch = e
theorem JR.q {w0 w w' : World} {bj bd bp gh f half e : Nat} {d : DskS} {recs : List (List UInt8)} (h : JR w0 w bj bd bp gh f half e d recs) (hq : Q w w') : JR w0 w' bj bd bp gh f half e d recs := by
  obtain ⟨j, h1, h2, h3⟩ := h
  exact ⟨j, h1.q hq, h2, h3⟩
theorem JR.lt {w0 w : World} {bj bd bp gh f half e : Nat} {d : DskS} {recs : List (List UInt8)} (h : JR w0 w bj bd bp gh f half e d recs) : bj < w.heap.size := by
  obtain ⟨j, h1, _⟩ := h
  exact lt_of_heap h1.j
theorem JR.dat {w0 w : World} {bj bd bp gh f half e : Nat} {d : DskS} {recs : List (List UInt8)} (h : JR w0 w bj bd bp gh f half e d recs) : DAt w0 w bd bp gh d ∧ Live d ∧ d.wait = [] := by
  obtain ⟨j, h1, h2, _⟩ := h
  exact ⟨h1.d, h2.live, h2.wait⟩
/-- Another journal on the same disk keeps its records. -/
theorem JR.other {w0 w w' : World} {bj bx bd bp gh f half e fx hx : Nat} {d d' : DskS} {recs : List (List UInt8)} (h : JR w0 w bj bd bp gh f half e d recs) (hk : K w0 [bx] w w') (hb : bj ≠ bx) (hd : DAt w0 w' bd bp gh d' ∧ Live d' ∧ d'.wait = []) (ho : OutJ fx hx d d') (hf : f + 2 * half ≤ fx ∨ fx + 2 * hx ≤ f) : JR w0 w' bj bd bp gh f half e d' recs := by
  obtain ⟨j, h1, h2, rfl, rfl, rfl⟩ := h
  exact ⟨j, ⟨h1.j.k hk (by simpa using hb), hd.1, h1.n⟩, h2.out hd.2.1 hd.2.2 ho hf, rfl, rfl, rfl⟩
theorem StrS.kr {w0 w w' : World} {v : Value} {ls : List (List UInt8)} {bj bd bp gh f half e : Nat} {d : DskS} {recs : List (List UInt8)} (h : StrS w v ls) (hk : K w0 [bj] w w') (hj : JR w0 w bj bd bp gh f half e d recs) : StrS w' v ls := by
  obtain ⟨j, h1, _⟩ := hj
  exact h.kj hk h1.j
theorem Format_inv {w0 w : World} {bd bp gh : Nat} {d : DskS} (f half : Nat) (h : DAt w0 w bd bp gh d ∧ Live d ∧ d.wait = []) (hh : 2 ≤ half) (hn : f + 2 * half ≤ d.n) (h0 : w0.heap.size ≤ w.heap.size) :
    Calls Tryz.prog 13 #[.pointer (some ⟨bd, 0, none⟩), .int .i64 (f : Int), .int .i64 ((2 * half : Nat) : Int)] w fun e w' => ∃ bj d', e = .returned (.tuple #[.pointer (some ⟨bj, 0, none⟩), .nilIface]) ∧ JR w0 w' bj bd bp gh f half 1 d' [] ∧ OutJ f half d d' ∧ w.heap.size ≤ bj ∧ K w0 [] w w' := by
  obtain ⟨h1, h2, h3⟩ := JInv.format h.2.1 hh hn
  refine (Format_ok f half h.1 hh hn h0 (by rw [h.2.2]; exact Nat.zero_le _) h1).mono ?_
  rintro e w' ⟨⟨bj, he, hj, hb⟩, hk⟩
  exact ⟨bj, _, he, ⟨_, hj, h2, rfl, rfl, rfl⟩, h3, hb, hk⟩
theorem Append_inv {w0 w : World} {bj bd bp gh f half e : Nat} {d : DskS} {recs : List (List UInt8)} (p : List UInt8) (h : JR w0 w bj bd bp gh f half e d recs) (hp : p.length ≤ 60000) (hfit : 1 + wantS recs + wantN p ≤ half) (h0 : w0.heap.size ≤ w.heap.size) :
    Calls Tryz.prog 25 #[.pointer (some ⟨bj, 0, none⟩), .string ⟨p.toArray⟩] w fun e' w' => ∃ d', e' = .returned .nilIface ∧ JR w0 w' bj bd bp gh f half e d' (recs ++ [p]) ∧ OutJ f half d d' ∧ K w0 [bj] w w' := by
  obtain ⟨j, hj, hi, rfl, rfl, rfl⟩ := h
  obtain ⟨h1, h2, h3, h4⟩ := hi.append p hp (by rw [hi.next]; exact hfit)
  refine (Append_ok p hj hi.ok hp (by rw [hi.wait]; exact Nat.zero_le _) h0 h2).mono ?_
  rintro e w' ⟨⟨v, he, hv⟩, hj', hk⟩
  rw [h1] at hv
  have hv0 : v = .nilIface := by rcases hv with ⟨_, hv⟩ | ⟨hn, _⟩; exact hv; exact absurd rfl hn
  subst hv0
  have hJ : appendJ j p = { j with many := j.many + 1, next := j.next + wantN p } := by unfold appendJ; rw [if_pos h1]
  exact ⟨_, he, ⟨_, hj', h3, by rw [hJ], by rw [hJ], by rw [hJ]⟩, h4, hk⟩
theorem Append_full {w0 w : World} {bj bd bp gh f half e : Nat} {d : DskS} {recs : List (List UInt8)} (p : List UInt8) (h : JR w0 w bj bd bp gh f half e d recs) (hp : p.length ≤ 60000) (hfit : half < 1 + wantS recs + wantN p) (h0 : w0.heap.size ≤ w.heap.size) :
    Calls Tryz.prog 25 #[.pointer (some ⟨bj, 0, none⟩), .string ⟨p.toArray⟩] w fun e' w' => (∃ v, e' = .returned v ∧ ErrIs w' v 12 0) ∧ JR w0 w' bj bd bp gh f half e d recs ∧ K w0 [bj] w w' := by
  obtain ⟨j, hj, hi, rfl, rfl, rfl⟩ := h
  have hn := hi.next
  have hn2 := hi.ok.next
  have h1 : appendC j p = 12 := by unfold appendC; rw [hi.closed, if_neg (by decide), if_pos (by omega)]
  have hD : appendD j p d = (d, 0) := by unfold appendD; rw [if_neg (by rw [h1]; decide)]
  have hJ : appendJ j p = j := by unfold appendJ; rw [if_neg (by rw [h1]; decide)]
  refine (Append_ok p hj hi.ok hp (by rw [hi.wait]; exact Nat.zero_le _) h0 (by rw [hD])).mono ?_
  rintro e w' ⟨hv, hj', hk⟩
  rw [h1] at hv
  rw [hD, hJ] at hj'
  exact ⟨hv, ⟨j, hj', hi, rfl, rfl, rfl⟩, hk⟩
theorem Reset_inv {w0 w : World} {bj bd bp gh f half e : Nat} {d : DskS} {recs : List (List UInt8)} (v : Value) (ls : List (List UInt8)) (h : JR w0 w bj bd bp gh f half e d recs) (hs : StrS w v ls) (hp : ∀ p ∈ ls, p.length ≤ 60000) (hfit : wantS ls + 1 ≤ half) (he : e < 4611686018427387904) (h0 : w0.heap.size ≤ w.heap.size) :
    Calls Tryz.prog 26 #[.pointer (some ⟨bj, 0, none⟩), v] w fun e' w' => ∃ d', e' = .returned .nilIface ∧ JR w0 w' bj bd bp gh f half (e + 1) d' ls ∧ OutJ f half d d' ∧ K w0 [bj] w w' := by
  obtain ⟨j, hj, hi, rfl, rfl, rfl⟩ := h
  obtain ⟨h1, h2, h3⟩ := hi.reset ls hp hfit he
  have hpl := hi.ok.place
  have hws := wantS_ge ls
  refine (Reset_ok v ls hj hs hp hi.ok hi.closed he hfit (by omega) (by rw [hi.wait]; exact Nat.zero_le _) h0 h1).mono ?_
  rintro e w' ⟨he, hj', hk⟩
  exact ⟨_, he, ⟨_, hj', h2, rfl, rfl, rfl⟩, h3, hk⟩
theorem Open_inv {w0 w : World} {bj bd bp gh f half e : Nat} {d : DskS} {recs : List (List UInt8)} (h : JR w0 w bj bd bp gh f half e d recs) (h0 : w0.heap.size ≤ w.heap.size) :
    Calls Tryz.prog 12 #[.pointer (some ⟨bd, 0, none⟩), .int .i64 (f : Int), .int .i64 ((2 * half : Nat) : Int)] w fun e' w' => ∃ bk v, e' = .returned (.tuple #[.pointer (some ⟨bk, 0, none⟩), v, .nilIface]) ∧ StrS w' v recs ∧ JR w0 w' bk bd bp gh f half e d recs ∧ JR w0 w' bj bd bp gh f half e d recs ∧ w.heap.size ≤ bk ∧ Q w w' := by
  obtain ⟨j, hj, hi, rfl, rfl, rfl⟩ := h
  have ho := hi.open
  refine (Open_ok j.first j.half hj.d hi.ok.half hi.fits h0 (by rw [hi.wait]; exact Nat.zero_le _) ⟨hi.live.gone, hi.live.dead⟩ (by rw [ho]; have := hi.ok.epoch; show j.epoch ≠ 0; omega)).mono ?_
  rintro e w' ⟨⟨bk, v, he, hv, hk, hb⟩, hq⟩
  rw [ho] at hv hk
  have hjj : foundJ j.first j.half ⟨j.second, j.epoch, recs, j.next⟩ = j := by
    unfold foundJ
    rw [← hi.many, ← hi.closed]
  rw [hjj] at hk
  exact ⟨bk, v, he, hv.toS, ⟨j, hk, hi, rfl, rfl, rfl⟩, ⟨j, hj.q hq, hi, rfl, rfl, rfl⟩, hb, hq⟩
theorem Left_inv {w0 w : World} {bj bd bp gh f half e : Nat} {d : DskS} {recs : List (List UInt8)} (h : JR w0 w bj bd bp gh f half e d recs) :
    Calls Tryz.prog 18 #[.pointer (some ⟨bj, 0, none⟩)] w fun e' w' => e' = .returned (.int .i64 ((half - (1 + wantS recs) : Nat) : Int)) ∧ Q w w' := by
  obtain ⟨j, hj, hi, rfl, rfl, rfl⟩ := h
  have := Left_any hj.j hi.ok
  rwa [hi.next] at this
theorem Half_inv {w0 w : World} {bj bd bp gh f half e : Nat} {d : DskS} {recs : List (List UInt8)} (h : JR w0 w bj bd bp gh f half e d recs) :
    Calls Tryz.prog 21 #[.pointer (some ⟨bj, 0, none⟩)] w fun e' w' => e' = .returned (.int .i64 ((half - 1 : Nat) : Int)) ∧ w = w' := by
  obtain ⟨j, hj, hi, rfl, rfl, rfl⟩ := h
  exact Half_any hj.j hi.ok
theorem Epoch_inv {w0 w : World} {bj bd bp gh f half e : Nat} {d : DskS} {recs : List (List UInt8)} (h : JR w0 w bj bd bp gh f half e d recs) :
    Calls Tryz.prog 19 #[.pointer (some ⟨bj, 0, none⟩)] w fun e' w' => e' = .returned (.int .i64 (e : Int)) ∧ w = w' := by
  obtain ⟨j, hj, hi, rfl, rfl, rfl⟩ := h
  exact Epoch_any hj.j
theorem Len_inv {w0 w : World} {bj bd bp gh f half e : Nat} {d : DskS} {recs : List (List UInt8)} (h : JR w0 w bj bd bp gh f half e d recs) :
    Calls Tryz.prog 20 #[.pointer (some ⟨bj, 0, none⟩)] w fun e' w' => e' = .returned (.int .i64 ((recs.length : Nat) : Int)) ∧ w = w' := by
  obtain ⟨j, hj, hi, rfl, rfl, rfl⟩ := h
  rw [← hi.many]
  exact Len_any hj.j
theorem live_new : Live newD := ⟨rfl, rfl, by decide, newD_ok⟩
end Go.Proofs.YtjbdjkpbkjkdpaaGreatDoor
/- Errors: what fault makes, errors.Is of it. -/
set_option linter.unusedVariables false
namespace Go.Proofs.YtjbdjkpbkjkdpaaGreatDoor
open Go Go.RowKit Go.Extern.Stop Go.Stop Go.Extern

/-! errors.Is of such an error: closed facts on the types, then the walk. -/
theorem callTypeOf (n : Int) (w : World) : (callFunc 80 #[.iface 73 (.int .i64 n)]).run Tryz.prog w = .ok (.value (.iface 143 (.agg #[.pointer (some ⟨2, 73, none⟩)]))) w := by kernel_rfl
theorem callComparable (w : World) : (callFunc 133 #[.agg #[.pointer (some ⟨2, 73, none⟩)]]).run Tryz.prog w = .ok (.value (.bool true)) w := by kernel_rfl
theorem hasIs (v : Value) (xT : TypeId) (w : World) : (Instr.typeAssert (.iface 92 v) xT 145 true).run Tryz.prog w = .ok (.tuple #[.iface 92 v, .bool true]) w := run_typeAssert_hasB Tryz.underlying145 (by kernel_rfl) v xT w

theorem mComparable (v : Value) (w : World) : (Go.method 290 143 v "Comparable").run Tryz.prog w = .ok (133, v) w := by kernel_rfl
theorem mIs (v : Value) (w : World) : (Go.method 290 92 v "Is").run Tryz.prog w = .ok (125, v) w := by kernel_rfl
theorem asErrno (n : Int) (w : World) : (Instr.typeAssert (.iface 73 (.int .i64 n)) 33 73 true).run Tryz.prog w = .ok (.tuple #[.int .i64 n, .bool true]) w := by kernel_rfl
theorem asFault (a : Option Addr) (w : World) : (Instr.typeAssert (.iface 92 (.pointer a)) 33 92 true).run Tryz.prog w = .ok (.tuple #[.pointer a, .bool true]) w := by kernel_rfl

set_option maxHeartbeats 400000 in
theorem faultIs_true (b : Nat) (c a : Int) (w : World) (h : FaultAt w b c a) :
    Calls Tryz.prog 125 #[.pointer (some ⟨b, 0, none⟩), .iface 73 (.int .i64 c)] w fun e w' => e = .returned (.bool true) ∧ w = w' := by
  have c0 := h.cell0
  have hA := asErrno
  go_enter Tryz.func125, Tryz.ntmps125
  go_wp2
  go_ret
  exact ⟨rfl, rfl⟩

set_option maxHeartbeats 1000000 in
theorem errorsis_true (b : Nat) (c a : Int) (w : World) (h : FaultAt w b c a) :
    Calls Tryz.prog 81 #[.iface 92 (.pointer (some ⟨b, 0, none⟩)), .iface 73 (.int .i64 c), .bool true] w fun e w' => e = .returned (.bool true) ∧ w = w' := by
  have hty := run_eql_iface_types (P := Tryz.prog) 92 73 (.pointer (some ⟨b, 0, none⟩)) (.int .i64 c) Tryz.underlying33 (by decide) w
  have hI := hasIs
  have mI := mIs
  go_enter Tryz.func81, Tryz.ntmps81
  go_wp2
  refine wp_loop_rounds 1 ?_
  rw [rounds_succ]
  go_wp2_with (go_at_call 125; refine (faultIs_true b c a _ h).mono ?_; rintro e w' ⟨rfl, rfl⟩)
  go_ret
  exact ⟨rfl, rfl⟩

set_option maxHeartbeats 400000 in
theorem errorsIs_true (b : Nat) (c a : Int) (w : World) (h : FaultAt w b c a) :
    Calls Tryz.prog 47 #[.iface 92 (.pointer (some ⟨b, 0, none⟩)), .iface 73 (.int .i64 c)] w fun e w' => e = .returned (.bool true) ∧ w = w' := by
  have tT := callTypeOf
  have cT := callComparable
  have mC := mComparable
  go_enter Tryz.func47, Tryz.ntmps47
  go_wp2_with (go_at_call 81; refine (errorsis_true b c a _ h).mono ?_; rintro e w' ⟨rfl, rfl⟩)
  go_ret
  exact ⟨rfl, rfl⟩
end Go.Proofs.YtjbdjkpbkjkdpaaGreatDoor
/- The law's helpers: pick, texts, same, is. -/
set_option linter.unusedVariables false
set_option linter.unusedSimpArgs false
namespace Go.Proofs.YtjbdjkpbkjkdpaaGreatDoor
open Go Go.RowKit
def pickZ (c n : Int) : Int := if c < 0 then (-(c + 1)) % n else c % n
set_option maxHeartbeats 1000000 in
theorem pick_any (c n : Int) (w : World) (hn : 1 ≤ n ∧ n ≤ 1000) (hc : -9223372036854775808 ≤ c ∧ c ≤ 9223372036854775807) :
    Calls Tryz.prog 10 #[.int .i64 c, .int .i64 n] w fun e w' => e = .returned (.int .i64 (pickZ c n)) ∧ w = w' := by
  unfold pickZ
  by_cases h : c < 0
  · have g1 : decide (c < 0) = true := decide_eq_true h
    have b1 : 0 ≤ -(c + 1) % n := Int.emod_nonneg _ (by omega)
    have b2 : -(c + 1) % n < n := Int.emod_lt_of_pos _ (by omega)
    have e1 : Int.tmod (-(c + 1)) n = -(c + 1) % n := Int.tmod_eq_emod_of_nonneg (by omega)
    rw [if_pos h]
    have g2 : (n == 0) = false := by simp; omega
    go_enter Tryz.func10, Tryz.ntmps10
    go_wp2_with fail
    go_ret
    exact ⟨ret_int (by first | rfl | omega | (simp [e1])), rfl⟩
  · have g1 : decide (c < 0) = false := decide_eq_false h
    have b1 : 0 ≤ c % n := Int.emod_nonneg _ (by omega)
    have b2 : c % n < n := Int.emod_lt_of_pos _ (by omega)
    have e1 : Int.tmod c n = c % n := Int.tmod_eq_emod_of_nonneg (by omega)
    rw [if_neg h]
    have g2 : (n == 0) = false := by simp; omega
    go_enter Tryz.func10, Tryz.ntmps10
    go_wp2_with fail
    go_ret
    exact ⟨ret_int (by first | rfl | omega | (simp [e1])), rfl⟩
theorem pickZ_lt (c n : Int) (hn : 1 ≤ n) : 0 ≤ pickZ c n ∧ pickZ c n < n := by
  unfold pickZ
  split
  · exact ⟨Int.emod_nonneg _ (by omega), Int.emod_lt_of_pos _ (by omega)⟩
  · exact ⟨Int.emod_nonneg _ (by omega), Int.emod_lt_of_pos _ (by omega)⟩
set_option maxRecDepth 100000 in
set_option maxHeartbeats 1000000 in
theorem same_any (A B : Option Addr) (ca cb : Nat) (a b : List (List UInt8)) (w : World) (hA : StrsAt w A a.length a) (hB : StrsAt w B b.length b) (hal : a.length ≤ 1000000) (hbl : b.length ≤ 281474976710656) :
    Calls Tryz.prog 17 #[.slice A a.length ca, .slice B b.length cb] w fun e w' => e = .returned (.bool (decide (a = b))) ∧ Q w w' := by
  obtain ⟨R, hR⟩ : ∃ R, decide (a = b) = R := ⟨_, rfl⟩
  rw [hR]
  have HA := Lib.hid hA
  have HB := Lib.hid hB
  have HR := Lib.hid hR
  clear hA hB hR
  go_enter Tryz.func17, Tryz.ntmps17
  by_cases hl : a.length = b.length
  · have g1 : ((a.length : Int) != (b.length : Int)) = false := by simp [hl]
    have HL := Lib.hid hl
    obtain ⟨N, hN⟩ : ∃ N, a.length = N := ⟨_, rfl⟩
    obtain ⟨M, hM⟩ : ∃ N, b.length = N := ⟨_, rfl⟩
    rw [hN] at HA g1 hal ⊢
    rw [hM] at HB g1 hbl ⊢
    have HN := Lib.hid hN
    have HM := Lib.hid hM
    clear hl hN hM
    go_wp2_with fail
    go_loopw [5] (fun iv wr => ∃ i : Nat, i ≤ N ∧ iv = .int .i64 (i : Int) ∧ Hid (a.take i = b.take i) ∧ Hid (Q w wr)) (fun iv _ => N - (intOf iv).toNat)
    case atStart => exact ⟨0, by omega, rfl, rfl, Q.refl _⟩
    case round =>
      obtain ⟨i, hi, rfl, HT, HQ⟩ := hrel
      by_cases hlt : i < N
      · have g2 : decide (i < N) = true := decide_eq_true hlt
        have hltm : i < M := by have h1 := HN.out; have h2 := HM.out; have h3 := HL.out; omega
        obtain ⟨ad, rfl, hca⟩ := HA.out.at hlt
        obtain ⟨bd, rfl, hcb⟩ := HB.out.at hltm
        have ka : ∀ m : QW wr, m.val.cell? (ad.add i) = some (.string ⟨(gL a i).toArray⟩) := fun m => (HQ.out.trans m.le).cell hca
        have kb : ∀ m : QW wr, m.val.cell? (bd.add i) = some (.string ⟨(gL b i).toArray⟩) := fun m => (HQ.out.trans m.le).cell hcb
        have hta : a.take (i + 1) = a.take i ++ [gL a i] := by
          rw [List.take_succ_eq_append_getElem (by have := HN.out; omega)]; congr 2; simp [gL, List.getD, show i < a.length by have := HN.out; omega]
        have htb : b.take (i + 1) = b.take i ++ [gL b i] := by
          rw [List.take_succ_eq_append_getElem (by have := HM.out; omega)]; congr 2; simp [gL, List.getD, show i < b.length by have := HM.out; omega]
        have HTA := Lib.hid hta
        have HTB := Lib.hid htb
        obtain ⟨x, hx⟩ : ∃ x, gL a i = x := ⟨_, rfl⟩
        obtain ⟨y, hy⟩ : ∃ x, gL b i = x := ⟨_, rfl⟩
        rw [hx] at ka HTA
        rw [hy] at kb HTB
        clear hta htb hx hy hca hcb
        go_upto_region 6 with (fail)
        refine wp_region_q (by kernel_rfl) (by kernel_rfl) ?_
        (repeat (go_big_quiet_step (fail)))
        refine wpQuiet_nil ?_
        rintro wa ⟨ma, hma⟩
        have hqa : Q wr wa := by rw [hma]; exact ma.le
        have HQa := Lib.hid (HQ.out.trans hqa)
        clear hma ma hqa ka kb HQ
        obtain ⟨t, ht⟩ : ∃ t, (!x == y) = t := ⟨_, rfl⟩
        rw [ht]
        cases t with
        | false =>
          have hxy : x = y := by simpa using ht
          have HT2 : Hid (a.take (i + 1) = b.take (i + 1)) := Lib.hid (by rw [HTA.out, HTB.out, HT.out, hxy])
          clear ht hxy
          go_wp2_with fail
          go_roundw
          case rel => exact ⟨i + 1, by omega, by go_num, HT2.out, HQa.out⟩
          case measure => simp [intOf]; omega
        | true =>
          have hxy : ¬ x = y := by simpa using ht
          have hR0 : R = false := by
            rw [← HR.out]
            refine decide_eq_false fun e => hxy ?_
            have h1 := HTA.out
            rw [e, HTB.out] at h1
            have := List.append_inj_right' h1 rfl
            simpa using this.symm
          subst hR0
          clear ht hxy
          go_wp2_with fail
          go_ret
          exact ⟨rfl, HQa.out⟩
      · have g2 : decide (i < N) = false := decide_eq_false hlt
        obtain rfl : i = N := by omega
        have hR1 : R = true := by
          rw [← HR.out]
          refine decide_eq_true ?_
          have h1 := HT.out
          rwa [List.take_of_length_le (by rw [HN.out]; exact Nat.le_refl _), List.take_of_length_le (by have := HN.out; have := HL.out; omega)] at h1
        subst hR1
        clear hlt
        go_wp2_with fail
        go_ret
        exact ⟨rfl, HQ.out⟩
  · have g1 : ((a.length : Int) != (b.length : Int)) = true := by simp; omega
    have hR0 : R = false := by
      rw [← HR.out]
      exact decide_eq_false fun e => hl (by rw [e])
    subst hR0
    clear hl
    go_wp2_with fail
    go_ret
    exact ⟨rfl, Q.refl _⟩
def textsL (ls : List (List UInt8)) (many long : Nat) : List (List UInt8) := (ls.take many).map (·.take long)
set_option maxRecDepth 100000 in
set_option maxHeartbeats 1000000 in
theorem is_full (v : Value) (w : World) (h : ErrIs w v 12 0) : Calls Tryz.prog 14 #[v, .int .i64 12] w fun e w' => e = .returned (.bool true) ∧ w = w' := by
  rcases h with ⟨h, _⟩ | ⟨_, b, rfl, hf⟩
  · cases h
  have c0 := hf.cell0
  have c1 := hf.cell1
  have c2 := hf.cell2
  have HF := Lib.hid hf
  have hA := asFault
  clear hf
  go_enter Tryz.func14, Tryz.ntmps14
  go_wp2_with (go_at_call 47; refine (errorsIs_true b 12 0 _ HF.out).mono ?_; rintro e w' ⟨rfl, rfl⟩)
  go_ret
  exact ⟨rfl, rfl⟩
end Go.Proofs.YtjbdjkpbkjkdpaaGreatDoor
/- Where no journal may be, or none is: begin, Format, Open; the disk's Image; the law's is. -/
set_option linter.unusedVariables false
set_option linter.unusedSimpArgs false
namespace Go.Proofs.YtjbdjkpbkjkdpaaGreatDoor
open Go Go.RowKit
/-- There may be a journal. -/
def MayJ (f s n : Int) : Prop := 0 ≤ f ∧ 4 ≤ s ∧ s % 2 = 0 ∧ s ≤ n ∧ f ≤ n - s
set_option maxHeartbeats 2000000 in
theorem begin_bad {w0 w : World} {bd bp gh : Nat} {d : DskS} (f s : Int) (h : DAt w0 w bd bp gh d) (hb : ¬ MayJ f s d.n) (hs : -9223372036854775808 ≤ s ∧ s ≤ 9223372036854775807) :
    Calls Tryz.prog 38 #[.pointer (some ⟨bd, 0, none⟩), .int .i64 f, .int .i64 s] w fun e w' => (∃ v, e = .returned (.tuple #[.pointer none, v]) ∧ ErrIs w' v 1 0) ∧ Q w w' := by
  have HS := Lib.hid (Sectors_dk h)
  have h8 := h.ok.most
  have HF := Lib.hid jfault_any
  obtain ⟨n, hnn⟩ : ∃ n, d.n = n := ⟨_, rfl⟩
  rw [hnn] at HS hb h8
  unfold MayJ at hb
  have hn8 : (n : Int) ≤ 8192 := by omega
  clear h hnn h8
  by_cases h0 : f < 0
  · have g0 : decide (f < 0) = true := decide_eq_true h0
    clear h0 hb hs
    go_enter Tryz.func38, Tryz.ntmps38
    go_wp2_with fail
    refine (HF.out 1 _ (by decide)).mono ?_
    rintro e w8 ⟨⟨v, rfl, hv⟩, hq8⟩
    go_wp2_with fail
    go_ret2
    exact ⟨⟨v, rfl, hv⟩, hq8⟩
  have g0 : decide (f < 0) = false := decide_eq_false h0
  by_cases h1 : s < 4
  · have g1 : decide (s < 4) = true := decide_eq_true h1
    clear h0 h1 hb hs
    go_enter Tryz.func38, Tryz.ntmps38
    go_wp2_with fail
    refine (HF.out 1 _ (by decide)).mono ?_
    rintro e w8 ⟨⟨v, rfl, hv⟩, hq8⟩
    go_wp2_with fail
    go_ret2
    exact ⟨⟨v, rfl, hv⟩, hq8⟩
  have g1 : decide (s < 4) = false := decide_eq_false h1
  have hs0 : 0 ≤ s := by omega
  by_cases h2 : s % 2 = 0
  case neg =>
    have g2 : (s % 2 != 0) = true := by simpa using h2
    clear h0 h1 h2 hb hs
    go_enter Tryz.func38, Tryz.ntmps38
    go_wp2_with fail
    refine (HF.out 1 _ (by decide)).mono ?_
    rintro e w8 ⟨⟨v, rfl, hv⟩, hq8⟩
    go_wp2_with fail
    go_ret2
    exact ⟨⟨v, rfl, hv⟩, hq8⟩
  have g2 : (s % 2 != 0) = false := by simpa using h2
  by_cases h3 : (n : Int) < s
  · have g3 : decide ((n : Int) < s) = true := decide_eq_true h3
    clear h0 h1 h2 h3 hb hs
    go_enter Tryz.func38, Tryz.ntmps38
    go_wp2_with fail
    refine HS.out.mono ?_
    rintro e w1 ⟨rfl, rfl⟩
    go_wp2_with fail
    refine (HF.out 1 _ (by decide)).mono ?_
    rintro e w8 ⟨⟨v, rfl, hv⟩, hq8⟩
    go_wp2_with fail
    go_ret2
    exact ⟨⟨v, rfl, hv⟩, hq8⟩
  have g3 : decide ((n : Int) < s) = false := decide_eq_false h3
  have h4 : (n : Int) - s < f := by omega
  have g4 : decide ((n : Int) - s < f) = true := decide_eq_true h4
  have hsn : s ≤ (n : Int) := by omega
  clear h0 h1 h2 h3 h4 hb hs
  go_enter Tryz.func38, Tryz.ntmps38
  go_wp2_with fail
  refine HS.out.mono ?_
  rintro e w1 ⟨rfl, rfl⟩
  go_wp2_with fail
  refine HS.out.mono ?_
  rintro e w1 ⟨rfl, rfl⟩
  go_wp2_with fail
  refine (HF.out 1 _ (by decide)).mono ?_
  rintro e w8 ⟨⟨v, rfl, hv⟩, hq8⟩
  go_wp2_with fail
  go_ret2
  exact ⟨⟨v, rfl, hv⟩, hq8⟩
set_option maxHeartbeats 2000000 in
theorem Format_bad {w0 w : World} {bd bp gh : Nat} {d : DskS} (f s : Int) (h : DAt w0 w bd bp gh d) (hb : ¬ MayJ f s d.n) (hs : -9223372036854775808 ≤ s ∧ s ≤ 9223372036854775807) :
    Calls Tryz.prog 13 #[.pointer (some ⟨bd, 0, none⟩), .int .i64 f, .int .i64 s] w fun e w' => (∃ v, e = .returned (.tuple #[.pointer none, v]) ∧ ErrIs w' v 1 0) ∧ Q w w' := by
  have HB := Lib.hid (begin_bad f s h hb hs)
  clear h hb hs
  go_enter Tryz.func13, Tryz.ntmps13
  go_wp2_with fail
  refine HB.out.mono ?_
  rintro e w1 ⟨⟨v, rfl, hv⟩, hq1⟩
  rcases hv with ⟨hc, _⟩ | ⟨hc, b, rfl, hf⟩
  · cases hc
  have HFF := Lib.hid hf
  clear hf hc HB
  go_wp2_with fail
  go_ret2
  exact ⟨⟨_, rfl, .inr ⟨by decide, b, rfl, HFF.out⟩⟩, hq1⟩
set_option maxRecDepth 100000 in
set_option maxHeartbeats 2000000 in
theorem Open_bad {w0 w : World} {bd bp gh : Nat} {d : DskS} (f s : Int) (h : DAt w0 w bd bp gh d) (hb : ¬ MayJ f s d.n) (hs : -9223372036854775808 ≤ s ∧ s ≤ 9223372036854775807) :
    Calls Tryz.prog 12 #[.pointer (some ⟨bd, 0, none⟩), .int .i64 f, .int .i64 s] w fun e w' => (∃ v, e = .returned (.tuple #[.pointer none, .slice none 0 0, v]) ∧ ErrIs w' v 1 0) ∧ Q w w' := by
  have HB := Lib.hid (begin_bad f s h hb hs)
  clear h hb hs
  go_enter Tryz.func12, Tryz.ntmps12
  go_wp2_with fail
  refine HB.out.mono ?_
  rintro e w1 ⟨⟨v, rfl, hv⟩, hq1⟩
  rcases hv with ⟨hc, _⟩ | ⟨hc, b, rfl, hf⟩
  · cases hc
  have HFF := Lib.hid hf
  clear hf hc HB
  go_wp2_with fail
  go_ret3
  exact ⟨⟨_, rfl, .inr ⟨by decide, b, rfl, HFF.out⟩⟩, hq1⟩
set_option maxRecDepth 100000 in
set_option maxHeartbeats 8000000 in
theorem Open_blank {w0 w : World} {bd bp gh : Nat} {d : DskS} (f half : Nat) (h : DAt w0 w bd bp gh d) (hh : 2 ≤ half) (hn : f + 2 * half ≤ d.n) (h0 : w0.heap.size ≤ w.heap.size) (hw : d.wait.length ≤ 900000) (hg : d.gone = false ∧ d.dead = false) (he : (openF f half d).epoch = 0) :
    Calls Tryz.prog 12 #[.pointer (some ⟨bd, 0, none⟩), .int .i64 (f : Int), .int .i64 ((2 * half : Nat) : Int)] w fun e w' => (∃ v, e = .returned (.tuple #[.pointer none, .slice none 0 0, v]) ∧ ErrIs w' v 15 0) ∧ Q w w' := by
  have HB := Lib.hid (begin_ok f half h hh hn h0)
  have hokd := Lib.hid h.ok
  have hm8 := h.ok.most
  obtain ⟨F, hF⟩ : ∃ F, openF f half d = F := ⟨_, rfl⟩
  rw [hF] at he
  have HF := Lib.hid hF
  unfold openF at HF
  have HE0 := Lib.hid he
  have HFA := Lib.hid jfault_any
  have HLD := Lib.hid (fun (sec : Bool) (bj : Nat) (w' : World) (hj : JD w0 w' bj bd bp gh (jrn0 f half) d) (h0' : w0.heap.size ≤ w'.heap.size) => load_any sec hj hn hw hg h0')
  have hla : (halfL (jrn0 f half) false d half).length = 64 * half := halfL_len hokd.out hn half (Nat.le_refl _)
  have hlb : (halfL (jrn0 f half) true d half).length = 64 * half := halfL_len hokd.out hn half (Nat.le_refl _)
  obtain ⟨a, ha⟩ : ∃ a, halfL (jrn0 f half) false d half = a := ⟨_, rfl⟩
  obtain ⟨b, hb⟩ : ∃ a, halfL (jrn0 f half) true d half = a := ⟨_, rfl⟩
  have HLA : Hid (∀ bj w', JD w0 w' bj bd bp gh (jrn0 f half) d → w0.heap.size ≤ w'.heap.size → Calls Tryz.prog 39 #[.pointer (some ⟨bj, 0, none⟩), .bool false] w' fun e w'' => e = .returned (.tuple #[.string ⟨a.toArray⟩, .nilIface]) ∧ Q w' w'') := Lib.hid (fun bj w' hj h0' => by rw [← ha]; exact HLD.out false bj w' hj h0')
  have HLB : Hid (∀ bj w', JD w0 w' bj bd bp gh (jrn0 f half) d → w0.heap.size ≤ w'.heap.size → Calls Tryz.prog 39 #[.pointer (some ⟨bj, 0, none⟩), .bool true] w' fun e w'' => e = .returned (.tuple #[.string ⟨b.toArray⟩, .nilIface]) ∧ Q w' w'') := Lib.hid (fun bj w' hj h0' => by rw [← hb]; exact HLD.out true bj w' hj h0')
  rw [ha] at hla
  rw [hb] at hlb
  rw [ha, hb] at HF
  unfold foundOf at HF
  have hbe := epN_le b
  have hae := epN_le a
  have HEA := Lib.hid (fun w => epochOf_any a w (by omega) (by omega))
  have HEB := Lib.hid (fun w => epochOf_any b w (by omega) (by omega))
  obtain ⟨ea, hea⟩ : ∃ e, epN a = e := ⟨_, rfl⟩
  obtain ⟨eb, heb⟩ : ∃ e, epN b = e := ⟨_, rfl⟩
  rw [hea] at hae HEA
  rw [heb] at hbe HEB
  rw [hea, heb] at HF
  have HL1 := Lib.hid hla
  have HL2 := Lib.hid hlb
  have hh' : half ≤ 4096 := by omega
  obtain ⟨s, hs⟩ : ∃ s, s = 2 * half := ⟨_, rfl⟩
  rw [← hs] at HB ⊢
  clear h hF he HLD ha hb hea heb hla hlb hs hg hn
  go_enter Tryz.func12, Tryz.ntmps12
  go_wp2_with fail
  refine HB.out.mono ?_
  rintro e w1 ⟨⟨bj, rfl, hj1, hbj⟩, hq1⟩
  have HJ1 := Lib.hid hj1
  have HQ1 := Lib.hid hq1
  have h01 := Nat.le_trans h0 hq1.size
  clear hj1 hq1 HB
  go_wp2_with fail
  refine (HLA.out bj w1 HJ1.out h01).mono ?_
  rintro e w2 ⟨rfl, hq2⟩
  have HJ2 := Lib.hid (HJ1.out.q hq2)
  have HQ2 := Lib.hid (HQ1.out.trans hq2)
  have h02 := Nat.le_trans h01 hq2.size
  clear hq2 HJ1 HQ1
  go_wp2_with fail
  refine (HLB.out bj w2 HJ2.out h02).mono ?_
  rintro e w3 ⟨rfl, hq3⟩
  have HJ3 := Lib.hid (HJ2.out.q hq3)
  have HQ3 := Lib.hid (HQ2.out.trans hq3)
  have h03 := Nat.le_trans h02 hq3.size
  clear hq3 HJ2 HQ2 HLA HLB
  go_wp2_with fail
  refine (HEA.out w3).mono ?_
  rintro e w4 ⟨rfl, hq4⟩
  have HJ4 := Lib.hid (HJ3.out.q hq4)
  have HQ4 := Lib.hid (HQ3.out.trans hq4)
  have h04 := Nat.le_trans h03 hq4.size
  have c4 := HJ4.out.j.c4
  have f4 := HJ4.out.j.fz 4
  obtain ⟨hs1, hs2⟩ := HJ4.out.set 4 (.int .i64 (ea : Int)) (HJ4.out.j.set4 ea)
  have hqs := HQ4.out.setNew (p := ⟨bj, 4, none⟩) hbj (.int .i64 (ea : Int))
  clear hq4 HJ3 HQ3
  go_upto_region 11 with (fail)
  obtain ⟨W5, hW5⟩ : ∃ W, w4.setCell ⟨bj, 4, none⟩ (.int .i64 (ea : Int)) = W := ⟨_, rfl⟩
  rw [hW5] at hs1 hs2 hqs ⊢
  have HJ5 := Lib.hid hs1
  have HQ5 := Lib.hid hqs
  have h05 := Nat.le_trans h04 hs2.size
  clear hs1 hs2 hqs hW5 c4 f4 HJ4 HQ4
  go_wp2_with fail
  refine (HEB.out W5).mono ?_
  rintro e w6 ⟨rfl, hq6⟩
  have HJ6 := Lib.hid (HJ5.out.q hq6)
  have HQ6 := Lib.hid (HQ5.out.trans hq6)
  have h06 := Nat.le_trans h05 hq6.size
  have c4 := HJ6.out.j.c4
  have f4 := HJ6.out.j.fz 4
  have c3 := HJ6.out.j.c3
  have f3 := HJ6.out.j.fz 3
  simp only at c4 c3
  clear hq6 HJ5 HQ5 HEA HEB
  go_upto_if 58 with (fail)
  go_cut [11] (fun sv wx => sv = .string ⟨(if ea < eb then b else a).toArray⟩ ∧ Hid (JD w0 wx bj bd bp gh { jrn0 f half with second := decide (ea < eb), epoch := if ea < eb then eb else ea } d) ∧ Hid (Q w wx) ∧ w0.heap.size ≤ wx.heap.size)
  case first =>
    by_cases hlt : ea < eb
    · have g1 : decide (ea < eb) = true := decide_eq_true hlt
      obtain ⟨hs1, hs2⟩ := HJ6.out.set 4 (.int .i64 (eb : Int)) (HJ6.out.j.set4 eb)
      obtain ⟨hs3, hs4⟩ := hs1.set 3 (.bool true) (hs1.j.set3 true)
      have hqs := (HQ6.out.setNew (p := ⟨bj, 4, none⟩) hbj (.int .i64 (eb : Int))).setNew (p := ⟨bj, 3, none⟩) hbj (.bool true)
      have HJ7 := Lib.hid hs3
      have HQ7 := Lib.hid hqs
      have h07 := Nat.le_trans h06 (hs2.trans hs4).size
      have HLT := Lib.hid hlt
      clear hs1 hs2 hs3 hs4 hqs hlt
      go_wp2_with fail
      go_meet
      rw [if_pos HLT.out, if_pos HLT.out, g1]
      exact ⟨rfl, HJ7.out, HQ7.out, h07⟩
    · have g1 : decide (ea < eb) = false := decide_eq_false hlt
      have HLT := Lib.hid hlt
      clear hlt
      go_wp2_with fail
      go_meet
      rw [if_neg HLT.out, if_neg HLT.out, g1]
      exact ⟨rfl, HJ6.out, HQ6.out, h06⟩
  case rest =>
    obtain ⟨rfl, HJ7, HQ7, h07⟩ := hcut
    have hEb : (if ea < eb then eb else ea) ≤ 4611686018427387904 := by split <;> omega
    have hHl : (if ea < eb then b else a).length = 64 * half := by split; exact HL2.out; exact HL1.out
    obtain ⟨H, hH⟩ : ∃ h, (if ea < eb then b else a) = h := ⟨_, rfl⟩
    obtain ⟨E, hE⟩ : ∃ h, (if ea < eb then eb else ea) = h := ⟨_, rfl⟩
    obtain ⟨B, hB⟩ : ∃ h, decide (ea < eb) = h := ⟨_, rfl⟩
    rw [hH, hE, hB] at HF
    rw [hE, hB] at HJ7
    rw [hE] at hEb
    rw [hH] at hHl ⊢
    have hE1 : E = 0 := by have := HE0.out; rw [← HF.out] at this; exact this
    subst hE1
    have c4 := HJ7.out.j.c4
    simp only at c4
    clear hH hE hB c3 f3 f4 HJ6 HQ6 h06 HL1 HL2 hHl
    go_wp2_with fail
    refine (HFA.out 15 _ (by decide)).mono ?_
    rintro e w8 ⟨⟨v, rfl, hv⟩, hq8⟩
    have HV := Lib.hid hv
    clear hv
    go_wp2_with fail
    go_ret3
    exact ⟨⟨v, rfl, HV.out⟩, HQ7.out.trans hq8⟩
set_option maxHeartbeats 1000000 in
theorem Image_any {w0 w : World} {bd bp gh : Nat} {d : DskS} (h : DAt w0 w bd bp gh d) (hd : d.dead = false) :
    Calls Tryz.prog 16 #[.pointer (some ⟨bd, 0, none⟩)] w fun e w' => e = .returned (.string ⟨d.has.toArray⟩) ∧ w = w' := by
  have c3 := h.dead_cell
  rw [hd] at c3
  have c1 := h.has_cell
  have hcv : (convert 69 9 (.slice (some ⟨gh, 0, none⟩) d.has.length d.has.length)).run Tryz.prog w = .ok (.string ⟨(sub d.has 0 (0 + d.has.length)).toArray⟩) w := conv_at h.mem (by omega)
  rw [show sub d.has 0 (0 + d.has.length) = d.has by unfold sub; rw [Nat.zero_add, List.take_length, List.drop_zero]] at hcv
  clear h hd
  go_enter Tryz.func16, Tryz.ntmps16
  go_wp2_with fail
  go_ret
  exact ⟨rfl, rfl⟩
set_option maxRecDepth 100000 in
set_option maxHeartbeats 1000000 in
theorem is_some (v : Value) (c : Int) (w : World) (h : ErrIs w v c 0) (hc : c = 1 ∨ c = 12 ∨ c = 15 ∨ c = 16) : Calls Tryz.prog 14 #[v, .int .i64 c] w fun e w' => e = .returned (.bool true) ∧ w = w' := by
  have g0 : (c == 0) = false := by rcases hc with rfl | rfl | rfl | rfl <;> rfl
  have g1 : (c != 10) = true := by rcases hc with rfl | rfl | rfl | rfl <;> rfl
  have g2 : (c != 11) = true := by rcases hc with rfl | rfl | rfl | rfl <;> rfl
  have hr : -9223372036854775808 ≤ c ∧ c ≤ 9223372036854775807 := by omega
  rcases h with ⟨h, _⟩ | ⟨_, b, rfl, hf⟩
  · omega
  have c0 := hf.cell0
  have c1 := hf.cell1
  have c2 := hf.cell2
  have HF := Lib.hid hf
  have hA := asFault
  clear hf hc
  go_enter Tryz.func14, Tryz.ntmps14
  go_wp2_with (go_at_call 47; refine (errorsIs_true b c 0 _ HF.out).mono ?_; rintro e w' ⟨rfl, rfl⟩)
  go_ret
  exact ⟨rfl, rfl⟩
end Go.Proofs.YtjbdjkpbkjkdpaaGreatDoor
/- A slice of numbers as a list; an argument []int, opened. -/
set_option linter.unusedVariables false
namespace Go.Proofs.YtjbdjkpbkjkdpaaGreatDoor
open Go Go.RowKit Go.ChangeShapes Go.WideShapes
/-- The slice holds these numbers. -/
def IntsAt (w : World) (A : Option Addr) (n : Nat) (zs : List Int) : Prop :=
  n = zs.length ∧ (0 < n → ∃ ad, A = some ad ∧ ∀ i (h : i < zs.length), w.cell? (ad.add i) = some (.int .i64 zs[i])) ∧ ∀ z ∈ zs, -9223372036854775808 ≤ z ∧ z ≤ 9223372036854775807
theorem IntsAt.q {w w' : World} {A : Option Addr} {n : Nat} {zs : List Int} (h : IntsAt w A n zs) (hq : Q w w') : IntsAt w' A n zs :=
  ⟨h.1, fun h0 => let ⟨ad, e, hc⟩ := h.2.1 h0; ⟨ad, e, fun i hi => hq.cell (hc i hi)⟩, h.2.2⟩
theorem IntsAt.at {w : World} {A : Option Addr} {n : Nat} {zs : List Int} (h : IntsAt w A n zs) {i : Nat} (hi : i < n) :
    ∃ ad, A = some ad ∧ ∃ z : Int, w.cell? (ad.add i) = some (.int .i64 z) ∧ -9223372036854775808 ≤ z ∧ z ≤ 9223372036854775807 := by
  obtain ⟨ad, e, hc⟩ := h.2.1 (by omega)
  have hi' : i < zs.length := by rw [← h.1]; exact hi
  exact ⟨ad, e, zs[i], hc i hi', h.2.2 _ (List.getElem_mem hi')⟩
theorem ints_open {H : Type} {enc : TypeId × Value → H} {W : World} {A : Option Addr} {len cap : Nat} {d : DataW H} {p : List MemPlace}
    (h : DataW.Trod enc Tryz.prog W 0 (fun _ => true) true 22 (.slice A len cap) d p) :
    ∃ zs : List Int, IntsAt W A len zs ∧ cap ≤ 9223372036854775807 ∧ len ≤ cap := by
  obtain ⟨fuel, hf⟩ := h
  rcases open_ints Tryz.underlying22 Tryz.underlying3 (by kernel_rfl) hf with ⟨hcs, hx⟩ | ⟨a, len', cap', ss, hcs, _, hl, hm, hz, hx, hcell, hws⟩
  · simp [Value.cells] at hcs
    obtain ⟨rfl, rfl, rfl⟩ := hcs
    exact ⟨[], ⟨rfl, fun h => absurd h (by omega), by simp⟩, by omega, by omega⟩
  · simp [Value.cells] at hcs
    obtain ⟨rfl, rfl, rfl⟩ := hcs
    simp only [if_true] at hz
    refine ⟨ss.take len, ⟨by simp; omega, fun _ => ⟨a, rfl, fun i hi => ?_⟩, fun z hz' => ?_⟩, hm, hl⟩
    · have hi' : i < len ∧ i < ss.length := by simp at hi; omega
      rw [hcell i hi'.2]
      simp [List.getD, hi'.2]
    · have := hws z (List.mem_of_mem_take hz')
      simp [Lit.wf] at this
      have e : IntKind.i64.min = -9223372036854775808 := by decide
      rw [e] at this
      exact this
end Go.Proofs.YtjbdjkpbkjkdpaaGreatDoor
/- A live disk's Write and Flush; a half by the image's bytes; what Open finds is a journal. -/
set_option linter.unusedVariables false
set_option linter.unusedSimpArgs false
namespace Go.Proofs.YtjbdjkpbkjkdpaaGreatDoor
open Go Go.RowKit
/-- The disk in memory, alive. -/
def LiveAt (w0 w : World) (bd bp gh n m : Nat) : Prop := ∃ d, DAt w0 w bd bp gh d ∧ Live d ∧ d.n = n ∧ d.wait.length ≤ m
theorem LiveAt.q {w0 w w' : World} {bd bp gh n m : Nat} (h : LiveAt w0 w bd bp gh n m) (hq : Q w w') : LiveAt w0 w' bd bp gh n m := by
  obtain ⟨d, h1, h2⟩ := h
  exact ⟨d, h1.q hq, h2⟩
theorem Write_live {w0 w : World} {bd bp gh n m : Nat} (k : Nat) (s : List UInt8) (h : LiveAt w0 w bd bp gh n m) (hk : k < n) (hs : s.length = 64) (hm : m ≤ 900000) (h0 : Q w0 w) :
    Calls Tryz.prog 9 #[.pointer (some ⟨bd, 0, none⟩), .int .i64 (k : Int), .string ⟨s.toArray⟩] w fun e w' => e = .returned .nilIface ∧ LiveAt w0 w' bd bp gh n (m + 1) ∧ Q w0 w' := by
  obtain ⟨d, h1, h2, rfl, h3⟩ := h
  refine (Write_any (k : Int) s h1 (by omega) (by omega) h0.size).mono ?_
  rintro e w' ⟨⟨v, he, hv⟩, hd, hk2⟩
  have hc := writeC_live h2 hk hs
  obtain ⟨l1, l2, _⟩ := live_write h2 hk hs
  have hw := write_wait d (k : Int) s
  refine ⟨?_, ⟨_, hd, l1, l2, by omega⟩, hk2.toQ h0 (by simp)⟩
  rcases hv with ⟨_, rfl⟩ | ⟨hn, _⟩
  · exact he
  · exact absurd hc hn
theorem Flush_live {w0 w : World} {bd bp gh n m : Nat} (h : LiveAt w0 w bd bp gh n m) (hn : 0 < n) (hm : m ≤ 900000) (h0 : Q w0 w) :
    Calls Tryz.prog 11 #[.pointer (some ⟨bd, 0, none⟩)] w fun e w' => e = .returned .nilIface ∧ (∃ d, DAt w0 w' bd bp gh d ∧ Live d ∧ d.n = n ∧ d.wait = []) ∧ Q w0 w' := by
  obtain ⟨d, h1, h2, rfl, h3⟩ := h
  obtain ⟨f1, f2, f3, f4, _⟩ := live_flush h2 hn
  refine (Flush_any h1 (by omega) h0.size).mono ?_
  rintro e w' ⟨⟨v, he, hv⟩, hd, hk2⟩
  refine ⟨?_, ⟨_, hd, f2, f3, f4⟩, hk2.toQ h0 (by simp)⟩
  rcases hv with ⟨_, rfl⟩ | ⟨hx, _⟩
  · exact he
  · exact absurd f1 hx
theorem sub_join (l : List UInt8) (a b c : Nat) (h1 : a ≤ b) (h2 : b ≤ c) : sub l a b ++ sub l b c = sub l a c := by
  unfold sub
  have e1 : l.take b = (l.take c).take b := by rw [List.take_take, Nat.min_eq_left h2]
  rw [e1]
  generalize l.take c = t
  have e2 : t.drop b = (t.drop a).drop (b - a) := by rw [List.drop_drop]; congr 1; omega
  rw [e2, List.drop_take]
  exact List.take_append_drop _ _
theorem readL_none {d : DskS} (hw : d.wait = []) (k : Nat) : readL d k = sub d.has (k * 64) (k * 64 + 64) := by unfold readL; rw [hw]; rfl
theorem half_bytes {j : JrnS} {sec : Bool} {d : DskS} (hw : d.wait = []) (k : Nat) : halfL j sec d k = sub d.has (atJ j sec 0 * 64) (atJ j sec 0 * 64 + 64 * k) := by
  induction k with
  | zero => unfold halfL sub; simp
  | succ k ih =>
    rw [halfL_succ, ih, readL_none hw]
    have e : atJ j sec k * 64 = atJ j sec 0 * 64 + 64 * k := by unfold atJ; omega
    rw [e, sub_join _ _ _ _ (by omega) (by omega)]
    congr 1
theorem sub_sub (l : List UInt8) (a b i j : Nat) (h : a + j ≤ b) : sub (sub l a b) i j = sub l (a + i) (a + j) := by
  unfold sub
  refine List.ext_getElem? fun q => ?_
  simp only [List.getElem?_drop, List.getElem?_take]
  by_cases hq : i + q < j
  · rw [if_pos hq, if_pos (by omega), if_pos (by omega)]; congr 1; omega
  · rw [if_neg hq, if_neg (by omega)]
theorem open_bytes {d : DskS} (hw : d.wait = []) (f half : Nat) (hl : f + 2 * half ≤ d.n) (ho : d.Ok) (X : List UInt8) (hX : X = sub d.has (64 * f) (64 * (f + 2 * half))) :
    openF f half d = foundOf (sub X 0 (64 * half)) (sub X (64 * half) X.length) half := by
  have hlen : X.length = 64 * (2 * half) := by rw [hX, length_sub, ho.len]; omega
  unfold openF
  rw [half_bytes hw, half_bytes hw, hlen, hX, sub_sub _ _ _ _ _ (by omega), sub_sub _ _ _ _ _ (by omega)]
  unfold atJ jrn0
  simp only [Bool.false_eq_true, if_false, if_true]
  congr 2 <;> omega
theorem recGo_bd {h : List UInt8} {e half : Nat} (hl : h.length = 64 * half) : ∀ (f next many : Nat), next ≤ half → next ≤ (recGo h e half f next many).2 ∧ (recGo h e half f next many).2 ≤ half ∧ (recGo h e half f next many).1.length ≤ (recGo h e half f next many).2 - next := by
  intro f
  induction f with
  | zero => intro next many hn; exact ⟨Nat.le_refl _, hn, Nat.zero_le _⟩
  | succ f ih =>
    intro next many hn
    rw [recGo_succ]
    by_cases hc : next < half ∧ UnpOk (sub h (next * 64) h.length) (e : Int) ((many + 1 : Nat) : Int)
    · rw [if_pos hc]
      obtain ⟨n, h1, h2, h3, h4⟩ := unp_len hc.2
      rw [length_sub] at h3
      rw [h4]
      have := ih (next + n) (many + 1) (by omega)
      simp only [List.length_cons]
      omega
    · rw [if_neg hc]; exact ⟨Nat.le_refl _, hn, Nat.zero_le _⟩
theorem found_bd {f half : Nat} {d : DskS} (ho : d.Ok) (hl : f + 2 * half ≤ d.n) (hh : 2 ≤ half) (he : (openF f half d).epoch ≠ 0) :
    (foundJ f half (openF f half d)).Ok ∧ 1 ≤ (openF f half d).next ∧ (openF f half d).next ≤ half ∧ (openF f half d).recs.length ≤ half := by
  have hl1 : (halfL (jrn0 f half) false d half).length = 64 * half := halfL_len ho hl half (Nat.le_refl _)
  have hl2 : (halfL (jrn0 f half) true d half).length = 64 * half := halfL_len ho hl half (Nat.le_refl _)
  have hm := ho.most
  unfold openF foundOf at he ⊢
  generalize halfL (jrn0 f half) false d half = a at *
  generalize halfL (jrn0 f half) true d half = b at *
  have hX : (if epN a < epN b then b else a).length = 64 * half := by split; exact hl2; exact hl1
  have hE : (if epN a < epN b then epN b else epN a) ≤ 4611686018427387904 := by have := epN_le a; have := epN_le b; split <;> omega
  generalize (if epN a < epN b then b else a) = X at *
  generalize (if epN a < epN b then epN b else epN a) = E at *
  generalize decide (epN a < epN b) = B at *
  have hr := recGo_bd (e := E) hX half 1 0 (by omega)
  have he' : E ≠ 0 := he
  refine ⟨⟨by show f + 2 * half ≤ 8192; omega, hh, ⟨hr.1, hr.2.1⟩, ?_, ?_⟩, hr.1, hr.2.1, ?_⟩
  · show (recGo X E half half 1 0).1.length ≤ 100000
    omega
  · show 1 ≤ E ∧ E ≤ 4611686018427387904
    omega
  · show (recGo X E half half 1 0).1.length ≤ half
    omega
/-- A text with bytes 0 behind it, up to whole sectors. -/
def padL (s : List UInt8) : List UInt8 := s ++ zL (63 - (s.length + 63) % 64)
theorem padL_len (s : List UInt8) : (padL s).length = 64 * ((s.length + 63) / 64) := by
  unfold padL; rw [List.length_append, length_zL]; omega
end Go.Proofs.YtjbdjkpbkjkdpaaGreatDoor
