/- Texts of this proof, laid into one: JnM, JnN, JnO, Err, JnP, ErX. -/
import Derived.Test.YtcbepjepcabllaaGreatDoorMk07
import Derived.Outline
import Derived.LaidEql
import Derived.Stop.Asserts
import Derived.RowKitTokens
/- Plain laws: a half that holds records is read as it was written. -/
set_option linter.unusedVariables false
set_option linter.unusedSimpArgs false
namespace Go.Proofs.YtcbepjepcabllaaGreatDoor
open Go Go.RowKit
/-- A half: its head, its records, behind them no record. -/
def HalfIs (h : List UInt8) (half e : Nat) (recs : List (List UInt8)) : Prop :=
  ∃ rest, h = headL e ++ (packsL e 0 recs).flatten ++ rest ∧ h.length = 64 * half ∧ 1 + wantS recs ≤ half ∧ ∀ c r, rest = c :: r → c ≠ 1
theorem packs_flat_len (e : Nat) (ls : List (List UInt8)) : ∀ k, ((packsL e k ls).flatten).length = 64 * wantS ls := by
  induction ls with
  | nil => intro k; rfl
  | cons p r ih => intro k; rw [packsL, List.flatten_cons, List.length_append, ih, packL_len64, wantS_cons]; omega
theorem unp_one {s : List UInt8} {e n : Int} (h : UnpOk s e n) : ∃ r, s = 1 :: r := by
  obtain ⟨_, h24, h1, _⟩ := h
  cases s with
  | nil => simp at h24
  | cons c r =>
    refine ⟨r, ?_⟩
    congr 1
    have : c.toNat = 1 := h1
    exact UInt8.toNat_inj.1 this
theorem recGo_packs {h : List UInt8} {e half : Nat} (he : e ≤ 4611686018427387904) {rest : List UInt8} (hr : ∀ c r, rest = c :: r → c ≠ 1) (recs : List (List UInt8)) : ∀ (f k next : Nat), (∀ p ∈ recs, p.length ≤ 60000) → k + recs.length ≤ 4294967295 →
    sub h (next * 64) h.length = (packsL e k recs).flatten ++ rest → next + wantS recs ≤ half → half ≤ next + f → recGo h e half f next k = (recs, next + wantS recs) := by
  induction recs with
  | nil =>
    intro f k next _ _ hs hn hf
    cases f with
    | zero => rfl
    | succ f =>
      rw [recGo_succ, if_neg]
      · rfl
      · rintro ⟨_, hu⟩
        obtain ⟨r, e1⟩ := unp_one hu
        rw [hs] at e1
        exact hr 1 r e1 rfl
  | cons p r ih =>
    intro f k next hp hk hs hn hf
    rw [wantS_cons] at hn
    have hw : 1 ≤ wantN p := by unfold wantN; omega
    obtain ⟨f, rfl⟩ : ∃ g, f = g + 1 := ⟨f - 1, by omega⟩
    have hpl := hp p List.mem_cons_self
    rw [List.length_cons] at hk
    have hs2 : sub h (next * 64) h.length = packL (e : Int) ((k + 1 : Nat) : Int) p ++ ((packsL e (k + 1) r).flatten ++ rest) := by
      rw [hs, packsL, List.flatten_cons, List.append_assoc]
    obtain ⟨hu, hna, hpy⟩ := packL_unp (e : Int) ((k + 1 : Nat) : Int) p ((packsL e (k + 1) r).flatten ++ rest) (decide_eq_true ⟨by omega, by omega, by omega, by omega⟩) hpl
    have hpy2 : payL (sub h (next * 64) h.length) = p := by rw [hs2]; unfold payL; rw [hna]; exact hpy
    have hend : (endsN (nAt (sub h (next * 64) h.length) 4)).toNat / 64 = wantN p := by
      rw [hs2, hna]; unfold endsN wantN; omega
    rw [recGo_succ, if_pos ⟨by omega, by rw [hs2]; exact hu⟩, hpy2, hend]
    have hdr : sub h ((next + wantN p) * 64) h.length = (packsL e (k + 1) r).flatten ++ rest := by
      rw [sub_drop] at hs2 ⊢
      rw [Nat.add_mul, Nat.mul_comm (wantN p), ← List.drop_drop, hs2, ← packL_len64 (e : Int) ((k + 1 : Nat) : Int) p, List.drop_left]
    rw [ih f (k + 1) (next + wantN p) (fun q hq => hp q (List.mem_cons_of_mem _ hq)) (by omega) hdr (by omega) (by omega), wantS_cons, Nat.add_assoc]
theorem recGo_half {h : List UInt8} {e half : Nat} {recs : List (List UInt8)} (hh : HalfIs h half e recs) (he : e ≤ 4611686018427387904) (hp : ∀ p ∈ recs, p.length ≤ 60000) (hk : recs.length ≤ 4294967295) : recGo h e half half 1 0 = (recs, 1 + wantS recs) := by
  obtain ⟨rest, e1, e2, e3, e4⟩ := hh
  refine recGo_packs he e4 recs half 0 1 hp (by omega) ?_ e3 (by omega)
  rw [sub_drop, e1, List.append_assoc, show 1 * 64 = (headL e).length by rw [headL_len], List.drop_left]
theorem eGo_cons (c : UInt8) (r : List UInt8) (e : Nat) (h : e ≤ 18014398509481984) : eGo (c :: r) e = eGo r (e * 256 + c.toNat) := by
  conv => lhs; unfold eGo
  rw [if_neg (by omega)]
theorem byN (x : Nat) : (byteOf ((x % 256 : Nat) : Int)).toNat = x % 256 := by
  have := byteOf_int ((x % 256 : Nat) : Int) (by omega) (by omega)
  omega
theorem dv (e a b c : Nat) (h : a * b = c) : (e : Int) / (a : Int) / (b : Int) % 256 = ((e / c % 256 : Nat) : Int) := by
  rw [← h, ← Nat.div_div_eq_div_mul]; rfl
theorem up256 (e a b : Nat) (h : a = b * 256) : e / a * 256 + e / b % 256 = e / b := by
  rw [h, ← Nat.div_div_eq_div_mul]
  exact Nat.div_add_mod' (e / b) 256
theorem le_div (e a b c : Nat) (he : e ≤ a) (h : a / b ≤ c) : e / b ≤ c := Nat.le_trans (Nat.div_le_div_right he) h
theorem eGo_step (e a b : Nat) (x : Int) (r : List UInt8) (he : e ≤ 4611686018427387904) (h : a = b * 256) (hx : x = ((e / b % 256 : Nat) : Int)) (hb : 4611686018427387904 / a ≤ 18014398509481984) : eGo (byteOf x :: r) (e / a) = eGo r (e / b) := by
  rw [eGo_cons _ _ _ (le_div e _ _ _ he hb), hx, byN, up256 e a b h]
theorem eGo_num (e : Nat) (he : e ≤ 4611686018427387904) : eGo (U32 ((e : Int) / 4294967296) ++ U32 (e : Int)) 0 = some e := by
  have e1 : U32 ((e : Int) / 4294967296) ++ U32 (e : Int) = [byteOf ((e : Int) / 4294967296 / 16777216 % 256), byteOf ((e : Int) / 4294967296 / 65536 % 256), byteOf ((e : Int) / 4294967296 / 256 % 256), byteOf ((e : Int) / 4294967296 % 256), byteOf ((e : Int) / 16777216 % 256), byteOf ((e : Int) / 65536 % 256), byteOf ((e : Int) / 256 % 256), byteOf ((e : Int) % 256)] := rfl
  have e0 : 0 = e / 18446744073709551616 := (Nat.div_eq_of_lt (Nat.lt_of_le_of_lt he (by decide))).symm
  have d1 : (e : Int) / 4294967296 / 16777216 % 256 = ((e / 72057594037927936 % 256 : Nat) : Int) := dv e 4294967296 16777216 _ (by decide)
  have d2 : (e : Int) / 4294967296 / 65536 % 256 = ((e / 281474976710656 % 256 : Nat) : Int) := dv e 4294967296 65536 _ (by decide)
  have d3 : (e : Int) / 4294967296 / 256 % 256 = ((e / 1099511627776 % 256 : Nat) : Int) := dv e 4294967296 256 _ (by decide)
  have d4 : (e : Int) / 4294967296 % 256 = ((e / 4294967296 % 256 : Nat) : Int) := rfl
  have d5 : (e : Int) / 16777216 % 256 = ((e / 16777216 % 256 : Nat) : Int) := rfl
  have d6 : (e : Int) / 65536 % 256 = ((e / 65536 % 256 : Nat) : Int) := rfl
  have d7 : (e : Int) / 256 % 256 = ((e / 256 % 256 : Nat) : Int) := rfl
  have d8 : (e : Int) % 256 = ((e / 1 % 256 : Nat) : Int) := by rw [Nat.div_one]; rfl
  rw [e1, e0,
    eGo_step e 18446744073709551616 72057594037927936 _ _ he (by decide) d1 (by decide),
    eGo_step e 72057594037927936 281474976710656 _ _ he (by decide) d2 (by decide),
    eGo_step e 281474976710656 1099511627776 _ _ he (by decide) d3 (by decide),
    eGo_step e 1099511627776 4294967296 _ _ he (by decide) d4 (by decide),
    eGo_step e 4294967296 16777216 _ _ he (by decide) d5 (by decide),
    eGo_step e 16777216 65536 _ _ he (by decide) d6 (by decide),
    eGo_step e 65536 256 _ _ he (by decide) d7 (by decide),
    eGo_step e 256 1 _ _ he (by decide) d8 (by decide), Nat.div_one]
  rfl
theorem epN_head (e : Nat) (h1 : 1 ≤ e) (he : e ≤ 4611686018427387904) (X : List UInt8) : epN (headL e ++ X) = e := by
  have hr : rightB (e : Int) 0 = true := decide_eq_true ⟨by omega, by omega, by omega, by omega⟩
  have hs1 : sub (headL e ++ X) 12 20 = U32 ((e : Int) / 4294967296) ++ U32 (e : Int) := rfl
  have hs2 : sub (headL e ++ X) 0 64 = headL e := sub_left _ _ _ (headL_len e).symm
  obtain ⟨hu, hna, hpy⟩ := packL_unp (e : Int) 0 magicL [] hr (by decide)
  rw [List.append_nil] at hu hna hpy
  have hh : isHead (headL e) e = true := by
    unfold isHead headL
    have hp : payL (packL (e : Int) 0 magicL) = magicL := by unfold payL; rw [hna]; exact hpy
    rw [decide_eq_true hu, decide_eq_true hp]; rfl
  unfold epN
  rw [hs1, eGo_num e he, hs2]
  simp only [hh, if_true]
theorem epN_zero (X : List UInt8) : epN (blankL ++ X) = 0 := by
  have hs2 : sub (blankL ++ X) 0 64 = blankL := sub_left _ _ _ blankL_len.symm
  unfold epN
  rw [hs2]
  split
  · rfl
  · rename_i e _
    have : isHead blankL e = false := by
      unfold isHead
      have : ¬ UnpOk blankL (e : Int) 0 := fun hu => by
        obtain ⟨r, hr⟩ := unp_one hu
        have : blankL = 0 :: zL 63 := rfl
        rw [this] at hr; injection hr with hr _; revert hr; decide
      rw [decide_eq_false this]; rfl
    rw [if_neg (by rw [this]; decide)]
end Go.Proofs.YtcbepjepcabllaaGreatDoor
/- Plain laws: a journal on a live disk that holds these records. -/
set_option linter.unusedVariables false
set_option linter.unusedSimpArgs false
namespace Go.Proofs.YtcbepjepcabllaaGreatDoor
open Go Go.RowKit
structure JInv (j : JrnS) (d : DskS) (recs : List (List UInt8)) : Prop where
  live : Live d
  wait : d.wait = []
  ok : j.Ok
  fits : j.first + 2 * j.half ≤ d.n
  closed : j.closed = false
  many : j.many = recs.length
  next : j.next = 1 + wantS recs
  half : HalfIs (halfL j j.second d j.half) j.half j.epoch recs
  other : epN (halfL j (!j.second) d j.half) < j.epoch
  small : ∀ p ∈ recs, p.length ≤ 60000
/-- Nothing but these sectors has changed. -/
structure OutJ (f half : Nat) (d d' : DskS) : Prop where
  n : d'.n = d.n
  out : ∀ i, ¬ (f ≤ i ∧ i < f + 2 * half) → i < d.n → readL d' i = readL d i
theorem wantN_pos (p : List UInt8) : 1 ≤ wantN p := by unfold wantN; omega
theorem wantS_ge (ls : List (List UInt8)) : ls.length ≤ wantS ls := by
  induction ls with
  | nil => exact Nat.le_refl _
  | cons p r ih => rw [wantS_cons, List.length_cons]; have := wantN_pos p; omega
theorem HalfIs.ep {h : List UInt8} {half e : Nat} {recs : List (List UInt8)} (hh : HalfIs h half e recs) (h1 : 1 ≤ e) (he : e ≤ 4611686018427387904) : epN h = e := by
  obtain ⟨rest, e1, _⟩ := hh
  rw [e1, List.append_assoc]
  exact epN_head e h1 he _
theorem JInv.open {j : JrnS} {d : DskS} {recs : List (List UInt8)} (h : JInv j d recs) : openF j.first j.half d = ⟨j.second, j.epoch, recs, j.next⟩ := by
  have he := h.half.ep h.ok.epoch.1 h.ok.epoch.2
  have ho := h.other
  have hl : recs.length ≤ 4294967295 := by rw [← h.many]; have := h.ok.many; omega
  have hr := recGo_half h.half h.ok.epoch.2 h.small hl
  unfold openF foundOf foundMk
  have e1 : ∀ s, halfL (jrn0 j.first j.half) s d j.half = halfL j s d j.half := fun s => rfl
  rw [e1, e1, h.next]
  cases hs : j.second with
  | true =>
    rw [hs] at he ho hr
    rw [Bool.not_true] at ho
    rw [he, if_pos ho, if_pos ho, hr, decide_eq_true ho]
  | false =>
    rw [hs] at he ho hr
    rw [Bool.not_false] at ho
    rw [he, if_neg (by omega), if_neg (by omega), hr, decide_eq_false (by omega)]
theorem JInv.out {j : JrnS} {d d' : DskS} {recs : List (List UInt8)} {f half : Nat} (h : JInv j d recs) (hl : Live d') (hw : d'.wait = []) (ho : OutJ f half d d') (hd : j.first + 2 * j.half ≤ f ∨ f + 2 * half ≤ j.first) : JInv j d' recs := by
  have e : ∀ s, halfL j s d' j.half = halfL j s d j.half := fun s => half_congr _ fun i hi => ho.out _ (by unfold atJ; split <;> omega) (by have := h.fits; unfold atJ; split <;> omega)
  exact ⟨hl, hw, h.ok, by rw [ho.n]; exact h.fits, h.closed, h.many, h.next, by rw [e]; exact h.half, by rw [e]; exact h.other, h.small⟩
theorem JInv.append {j : JrnS} {d : DskS} {recs : List (List UInt8)} (h : JInv j d recs) (p : List UInt8) (hp : p.length ≤ 60000) (hfit : j.next + wantN p ≤ j.half) :
    appendC j p = 0 ∧ (appendD j p d).2 = 0 ∧ JInv (appendJ j p) (appendD j p d).1 (recs ++ [p]) ∧ OutJ j.first j.half d (appendD j p d).1 := by
  have hc : appendC j p = 0 := by
    unfold appendC
    rw [h.closed, if_neg (by decide), if_neg (by omega)]
  obtain ⟨rest, e1, e2, e3, e4⟩ := h.half
  have hn := h.next
  have hA : (headL j.epoch ++ (packsL j.epoch 0 recs).flatten).length = 64 * j.next := by
    rw [List.length_append, headL_len, packs_flat_len]; omega
  have hR : rest.length + 64 * j.next = 64 * j.half := by rw [← e2, e1, List.length_append, hA]; omega
  obtain ⟨he, hw⟩ := lay_eff (j := j) (sec := j.second) h.live h.fits (k := j.next) (m := wantN p) (wantN_pos p) hfit (s := recL j p) (A := headL j.epoch ++ (packsL j.epoch 0 recs).flatten) (B := rest.take (64 * wantN p)) (C := rest.drop (64 * wantN p)) (recL_len j p)
    (by rw [List.append_assoc _ (rest.take _), List.take_append_drop]; exact e1) hA (by rw [List.length_take]; omega)
  have hD : appendD j p d = layJ j j.second j.next (wantN p) (recL j p) d := by unfold appendD; rw [if_pos hc]
  have hJ : appendJ j p = { j with many := j.many + 1, next := j.next + wantN p } := by unfold appendJ; rw [if_pos hc]
  rw [hD, hJ]
  have hws := wantS_ge (recs ++ [p])
  rw [wantS_snoc, List.length_append, List.length_singleton] at hws
  have hpl := h.ok.place
  have hm := h.many
  refine ⟨hc, he.ok, ⟨he.live, hw, ⟨h.ok.place, h.ok.half, ⟨by have := h.ok.next.1; show 1 ≤ j.next + wantN p; omega, hfit⟩, by show j.many + 1 ≤ 100000; omega, h.ok.epoch⟩, by rw [he.n]; exact h.fits, h.closed, ?_, ?_, ?_, ?_, ?_⟩, ?_⟩
  · show j.many + 1 = (recs ++ [p]).length
    rw [List.length_append, List.length_singleton, hm]
  · show j.next + wantN p = 1 + wantS (recs ++ [p])
    rw [wantS_snoc, hn, Nat.add_assoc]
  · refine ⟨tailC (j.next + wantN p) j.half (rest.drop (64 * wantN p)), ?_, ?_, ?_, ?_⟩
    · refine he.half.trans ?_
      rw [packsL_snoc, List.flatten_append, Nat.zero_add, ← hm]
      have e5 : [packL (j.epoch : Int) ((j.many + 1 : Nat) : Int) p].flatten = recL j p := by simp [recL]
      rw [e5, List.append_assoc (headL j.epoch)]
    · exact halfL_len he.live.ok (by rw [he.n]; exact h.fits) _ (Nat.le_refl _)
    · rw [wantS_snoc]; show 1 + (wantS recs + wantN p) ≤ j.half; omega
    · intro c r e
      rw [tailC_head (by rw [List.length_drop]; omega) c r e]
      decide
  · have e6 : halfL j (!j.second) (layJ j j.second j.next (wantN p) (recL j p) d).1 j.half = halfL j (!j.second) d j.half := half_congr _ fun i hi => he.out _ (by unfold atJ; cases j.second <;> simp <;> omega) (by have := h.fits; unfold atJ; split <;> omega)
    show epN (halfL j (!j.second) (layJ j j.second j.next (wantN p) (recL j p) d).1 j.half) < j.epoch
    rw [e6]
    exact h.other
  · intro q hq
    rcases List.mem_append.1 hq with hq | hq
    · exact h.small q hq
    · rw [List.mem_singleton.1 hq]; exact hp
  · exact ⟨he.n, fun i hi hn => he.out i (fun hx => hi (by revert hx; unfold atJ; split <;> omega)) hn⟩
theorem JInv.reset {j : JrnS} {d : DskS} {recs : List (List UInt8)} (h : JInv j d recs) (ls : List (List UInt8)) (hp : ∀ p ∈ ls, p.length ≤ 60000) (hfit : wantS ls + 1 ≤ j.half) (hee : j.epoch < 4611686018427387904) :
    (resetD j ls d).2 = 0 ∧ JInv (resetJ j ls) (resetD j ls d).1 ls ∧ OutJ j.first j.half d (resetD j ls d).1 := by
  have hl := halfL_len (sec := !j.second) h.live.ok h.fits j.half (Nat.le_refl _)
  obtain ⟨H, hH⟩ : ∃ H, halfL j (!j.second) d j.half = H := ⟨_, rfl⟩
  rw [hH] at hl
  have hpl := h.ok.place
  have hsm : sumM (packsL (j.epoch + 1) 0 ls) = wantS ls := wantS_packs _ _ _
  obtain ⟨he, hw⟩ := anew_eff h.live h.fits (packsL (j.epoch + 1) 0 ls) (fun s hs => (packsL_mem _ _ hp 0 s hs).1) (by rw [hsm]; omega) (A := H.take 64) (B := (H.drop 64).take (64 * wantS ls)) (C := (H.drop 64).drop (64 * wantS ls))
    (by rw [List.append_assoc, List.take_append_drop, List.take_append_drop]; exact hH) (by rw [List.length_take]; omega) (by rw [List.length_take, List.length_drop, hsm]; omega)
  rw [hsm] at he
  have hws := wantS_ge ls
  have e6 : halfL j j.second (resetD j ls d).1 j.half = halfL j j.second d j.half := half_congr _ fun i hi => he.out _ (by unfold atJ; cases j.second <;> simp <;> omega) (by have := h.fits; unfold atJ; split <;> omega)
  refine ⟨he.ok, ⟨he.live, hw, ⟨h.ok.place, h.ok.half, ⟨by show 1 ≤ 1 + wantS ls; omega, by show 1 + wantS ls ≤ j.half; omega⟩, by show ls.length ≤ 100000; omega, by show 1 ≤ j.epoch + 1 ∧ j.epoch + 1 ≤ 4611686018427387904; omega⟩, by rw [show (resetD j ls d).1.n = d.n from he.n]; exact h.fits, h.closed, rfl, rfl, ?_, ?_, hp⟩, ?_⟩
  · refine ⟨tailC (1 + wantS ls) j.half ((H.drop 64).drop (64 * wantS ls)), he.half, ?_, by show 1 + wantS ls ≤ j.half; omega, ?_⟩
    · exact halfL_len he.live.ok (by rw [he.n]; exact h.fits) _ (Nat.le_refl _)
    · intro c r e
      rw [tailC_head (by rw [List.length_drop, List.length_drop]; omega) c r e]
      decide
  · show epN (halfL j (!!j.second) (resetD j ls d).1 j.half) < j.epoch + 1
    rw [Bool.not_not, e6, h.half.ep h.ok.epoch.1 h.ok.epoch.2]
    omega
  · exact ⟨he.n, fun i hi hn => he.out i (fun hx => hi (by revert hx; unfold atJ; split <;> omega)) hn⟩
theorem JInv.format {f half : Nat} {d : DskS} (h : Live d) (hh : 2 ≤ half) (hp : f + 2 * half ≤ d.n) :
    (formatR f half d).2 = 0 ∧ JInv { jrn0 f half with epoch := 1 } (formatR f half d).1 [] ∧ OutJ f half d (formatR f half d).1 := by
  obtain ⟨h1, h2, h3, h4, h5, ⟨C, h6, h7⟩, C2, h8⟩ := format_eff h hh hp
  have hm := h.ok.most
  refine ⟨h1, ⟨h2, h4, ⟨by show f + 2 * half ≤ 8192; omega, hh, ⟨Nat.le_refl _, by show 1 ≤ half; omega⟩, by show 0 ≤ 100000; omega, by show 1 ≤ 1 ∧ 1 ≤ 4611686018427387904; decide⟩, by rw [h3]; exact hp, rfl, rfl, rfl, ?_, ?_, fun p hp => by cases hp⟩, ⟨h3, h5⟩⟩
  · refine ⟨tailC 1 half C, ?_, ?_, by show 1 + 0 ≤ half; omega, fun c r e => by rw [tailC_head (by omega) c r e]; decide⟩
    · refine Eq.trans h6 ?_
      show _ = headL 1 ++ [] ++ tailC 1 half C
      rw [List.append_nil]
    · exact halfL_len (j := jrn0 f half) h2.ok (by rw [h3]; exact hp) half (Nat.le_refl _)
  · show epN (halfL (jrn0 f half) true (formatR f half d).1 half) < 1
    rw [h8, epN_zero]
    decide
end Go.Proofs.YtcbepjepcabllaaGreatDoor
/- A journal that holds records: the calls. -/
set_option linter.unusedVariables false
set_option linter.unusedSimpArgs false
namespace Go.Proofs.YtcbepjepcabllaaGreatDoor
open Go Go.RowKit
/-- The journal in memory, on a live disk: where it lies, its epoch, its records. -/
def JR (w0 w : World) (bj bd bp gh f half e : Nat) (d : DskS) (recs : List (List UInt8)) : Prop := ∃ j, JD w0 w bj bd bp gh j d ∧ JInv j d recs ∧ j.first = f ∧ j.half = half ∧ j.epoch = e
theorem JR.q {w0 w w' : World} {bj bd bp gh f half e : Nat} {d : DskS} {recs : List (List UInt8)} (h : JR w0 w bj bd bp gh f half e d recs) (hq : Q w w') : JR w0 w' bj bd bp gh f half e d recs := by
  obtain ⟨j, h1, h2, h3⟩ := h
  exact ⟨j, h1.q hq, h2, h3⟩
theorem JR.lt {w0 w : World} {bj bd bp gh f half e : Nat} {d : DskS} {recs : List (List UInt8)} (h : JR w0 w bj bd bp gh f half e d recs) : bj < w.heap.size := by
  obtain ⟨j, h1, _⟩ := h
  exact lt_of_heap h1.j
theorem JR.dat {w0 w : World} {bj bd bp gh f half e : Nat} {d : DskS} {recs : List (List UInt8)} (h : JR w0 w bj bd bp gh f half e d recs) : DAt w0 w bd bp gh d ∧ Live d ∧ d.wait = [] := by
  obtain ⟨j, h1, h2, _⟩ := h
  exact ⟨h1.d, h2.live, h2.wait⟩
/-- Another journal on the same disk keeps its records. -/
theorem JR.other {w0 w w' : World} {bj bx bd bp gh f half e fx hx : Nat} {d d' : DskS} {recs : List (List UInt8)} (h : JR w0 w bj bd bp gh f half e d recs) (hk : K w0 [bx] w w') (hb : bj ≠ bx) (hd : DAt w0 w' bd bp gh d' ∧ Live d' ∧ d'.wait = []) (ho : OutJ fx hx d d') (hf : f + 2 * half ≤ fx ∨ fx + 2 * hx ≤ f) : JR w0 w' bj bd bp gh f half e d' recs := by
  obtain ⟨j, h1, h2, rfl, rfl, rfl⟩ := h
  exact ⟨j, ⟨h1.j.k hk (by simpa using hb), hd.1, h1.n⟩, h2.out hd.2.1 hd.2.2 ho hf, rfl, rfl, rfl⟩
theorem StrS.kr {w0 w w' : World} {v : Value} {ls : List (List UInt8)} {bj bd bp gh f half e : Nat} {d : DskS} {recs : List (List UInt8)} (h : StrS w v ls) (hk : K w0 [bj] w w') (hj : JR w0 w bj bd bp gh f half e d recs) : StrS w' v ls := by
  obtain ⟨j, h1, _⟩ := hj
  exact h.kj hk h1.j
theorem Format_inv {w0 w : World} {bd bp gh : Nat} {d : DskS} (f half : Nat) (h : DAt w0 w bd bp gh d ∧ Live d ∧ d.wait = []) (hh : 2 ≤ half) (hn : f + 2 * half ≤ d.n) (h0 : w0.heap.size ≤ w.heap.size) :
    Calls Tryz.prog 10 #[.pointer (some ⟨bd, 0, none⟩), .int .i64 (f : Int), .int .i64 ((2 * half : Nat) : Int)] w fun e w' => ∃ bj d', e = .returned (.tuple #[.pointer (some ⟨bj, 0, none⟩), .nilIface]) ∧ JR w0 w' bj bd bp gh f half 1 d' [] ∧ OutJ f half d d' ∧ w.heap.size ≤ bj ∧ K w0 [] w w' := by
  obtain ⟨h1, h2, h3⟩ := JInv.format h.2.1 hh hn
  refine (Format_ok f half h.1 hh hn h0 (by rw [h.2.2]; exact Nat.zero_le _) h1).mono ?_
  rintro e w' ⟨⟨bj, he, hj, hb⟩, hk⟩
  exact ⟨bj, _, he, ⟨_, hj, h2, rfl, rfl, rfl⟩, h3, hb, hk⟩
theorem Append_inv {w0 w : World} {bj bd bp gh f half e : Nat} {d : DskS} {recs : List (List UInt8)} (p : List UInt8) (h : JR w0 w bj bd bp gh f half e d recs) (hp : p.length ≤ 60000) (hfit : 1 + wantS recs + wantN p ≤ half) (h0 : w0.heap.size ≤ w.heap.size) :
    Calls Tryz.prog 19 #[.pointer (some ⟨bj, 0, none⟩), .string ⟨p.toArray⟩] w fun e' w' => ∃ d', e' = .returned .nilIface ∧ JR w0 w' bj bd bp gh f half e d' (recs ++ [p]) ∧ OutJ f half d d' ∧ K w0 [bj] w w' := by
  obtain ⟨j, hj, hi, rfl, rfl, rfl⟩ := h
  obtain ⟨h1, h2, h3, h4⟩ := hi.append p hp (by rw [hi.next]; exact hfit)
  refine (Append_ok p hj hi.ok hp (by rw [hi.wait]; exact Nat.zero_le _) h0 h2).mono ?_
  rintro e w' ⟨⟨v, he, hv⟩, hj', hk⟩
  rw [h1] at hv
  have hv0 : v = .nilIface := by rcases hv with ⟨_, hv⟩ | ⟨hn, _⟩; exact hv; exact absurd rfl hn
  subst hv0
  have hJ : appendJ j p = { j with many := j.many + 1, next := j.next + wantN p } := by unfold appendJ; rw [if_pos h1]
  exact ⟨_, he, ⟨_, hj', h3, by rw [hJ], by rw [hJ], by rw [hJ]⟩, h4, hk⟩
theorem Append_full {w0 w : World} {bj bd bp gh f half e : Nat} {d : DskS} {recs : List (List UInt8)} (p : List UInt8) (h : JR w0 w bj bd bp gh f half e d recs) (hp : p.length ≤ 60000) (hfit : half < 1 + wantS recs + wantN p) (h0 : w0.heap.size ≤ w.heap.size) :
    Calls Tryz.prog 19 #[.pointer (some ⟨bj, 0, none⟩), .string ⟨p.toArray⟩] w fun e' w' => (∃ v, e' = .returned v ∧ ErrIs w' v 12 0) ∧ JR w0 w' bj bd bp gh f half e d recs ∧ K w0 [bj] w w' := by
  obtain ⟨j, hj, hi, rfl, rfl, rfl⟩ := h
  have hn := hi.next
  have hn2 := hi.ok.next
  have h1 : appendC j p = 12 := by unfold appendC; rw [hi.closed, if_neg (by decide), if_pos (by omega)]
  have hD : appendD j p d = (d, 0) := by unfold appendD; rw [if_neg (by rw [h1]; decide)]
  have hJ : appendJ j p = j := by unfold appendJ; rw [if_neg (by rw [h1]; decide)]
  refine (Append_ok p hj hi.ok hp (by rw [hi.wait]; exact Nat.zero_le _) h0 (by rw [hD])).mono ?_
  rintro e w' ⟨hv, hj', hk⟩
  rw [h1] at hv
  rw [hD, hJ] at hj'
  exact ⟨hv, ⟨j, hj', hi, rfl, rfl, rfl⟩, hk⟩
theorem Reset_inv {w0 w : World} {bj bd bp gh f half e : Nat} {d : DskS} {recs : List (List UInt8)} (v : Value) (ls : List (List UInt8)) (h : JR w0 w bj bd bp gh f half e d recs) (hs : StrS w v ls) (hp : ∀ p ∈ ls, p.length ≤ 60000) (hfit : wantS ls + 1 ≤ half) (he : e < 4611686018427387904) (h0 : w0.heap.size ≤ w.heap.size) :
    Calls Tryz.prog 22 #[.pointer (some ⟨bj, 0, none⟩), v] w fun e' w' => ∃ d', e' = .returned .nilIface ∧ JR w0 w' bj bd bp gh f half (e + 1) d' ls ∧ OutJ f half d d' ∧ K w0 [bj] w w' := by
  obtain ⟨j, hj, hi, rfl, rfl, rfl⟩ := h
  obtain ⟨h1, h2, h3⟩ := hi.reset ls hp hfit he
  have hpl := hi.ok.place
  have hws := wantS_ge ls
  refine (Reset_ok v ls hj hs hp hi.ok hi.closed he hfit (by omega) (by rw [hi.wait]; exact Nat.zero_le _) h0 h1).mono ?_
  rintro e w' ⟨he, hj', hk⟩
  exact ⟨_, he, ⟨_, hj', h2, rfl, rfl, rfl⟩, h3, hk⟩
theorem Open_inv {w0 w : World} {bj bd bp gh f half e : Nat} {d : DskS} {recs : List (List UInt8)} (h : JR w0 w bj bd bp gh f half e d recs) (h0 : w0.heap.size ≤ w.heap.size) :
    Calls Tryz.prog 21 #[.pointer (some ⟨bd, 0, none⟩), .int .i64 (f : Int), .int .i64 ((2 * half : Nat) : Int)] w fun e' w' => ∃ bk v, e' = .returned (.tuple #[.pointer (some ⟨bk, 0, none⟩), v, .nilIface]) ∧ StrS w' v recs ∧ JR w0 w' bk bd bp gh f half e d recs ∧ JR w0 w' bj bd bp gh f half e d recs ∧ w.heap.size ≤ bk ∧ Q w w' := by
  obtain ⟨j, hj, hi, rfl, rfl, rfl⟩ := h
  have ho := hi.open
  refine (Open_ok j.first j.half hj.d hi.ok.half hi.fits h0 (by rw [hi.wait]; exact Nat.zero_le _) ⟨hi.live.gone, hi.live.dead⟩ (by rw [ho]; have := hi.ok.epoch; show j.epoch ≠ 0; omega)).mono ?_
  rintro e w' ⟨⟨bk, v, he, hv, hk, hb⟩, hq⟩
  rw [ho] at hv hk
  have hjj : foundJ j.first j.half ⟨j.second, j.epoch, recs, j.next⟩ = j := by
    unfold foundJ
    rw [← hi.many, ← hi.closed]
  rw [hjj] at hk
  exact ⟨bk, v, he, hv.toS, ⟨j, hk, hi, rfl, rfl, rfl⟩, ⟨j, hj.q hq, hi, rfl, rfl, rfl⟩, hb, hq⟩
theorem Left_inv {w0 w : World} {bj bd bp gh f half e : Nat} {d : DskS} {recs : List (List UInt8)} (h : JR w0 w bj bd bp gh f half e d recs) :
    Calls Tryz.prog 13 #[.pointer (some ⟨bj, 0, none⟩)] w fun e' w' => e' = .returned (.int .i64 ((half - (1 + wantS recs) : Nat) : Int)) ∧ Q w w' := by
  obtain ⟨j, hj, hi, rfl, rfl, rfl⟩ := h
  have := Left_any hj.j hi.ok
  rwa [hi.next] at this
theorem Half_inv {w0 w : World} {bj bd bp gh f half e : Nat} {d : DskS} {recs : List (List UInt8)} (h : JR w0 w bj bd bp gh f half e d recs) :
    Calls Tryz.prog 15 #[.pointer (some ⟨bj, 0, none⟩)] w fun e' w' => e' = .returned (.int .i64 ((half - 1 : Nat) : Int)) ∧ w = w' := by
  obtain ⟨j, hj, hi, rfl, rfl, rfl⟩ := h
  exact Half_any hj.j hi.ok
theorem Epoch_inv {w0 w : World} {bj bd bp gh f half e : Nat} {d : DskS} {recs : List (List UInt8)} (h : JR w0 w bj bd bp gh f half e d recs) :
    Calls Tryz.prog 16 #[.pointer (some ⟨bj, 0, none⟩)] w fun e' w' => e' = .returned (.int .i64 (e : Int)) ∧ w = w' := by
  obtain ⟨j, hj, hi, rfl, rfl, rfl⟩ := h
  exact Epoch_any hj.j
theorem Len_inv {w0 w : World} {bj bd bp gh f half e : Nat} {d : DskS} {recs : List (List UInt8)} (h : JR w0 w bj bd bp gh f half e d recs) :
    Calls Tryz.prog 17 #[.pointer (some ⟨bj, 0, none⟩)] w fun e' w' => e' = .returned (.int .i64 ((recs.length : Nat) : Int)) ∧ w = w' := by
  obtain ⟨j, hj, hi, rfl, rfl, rfl⟩ := h
  rw [← hi.many]
  exact Len_any hj.j
theorem live_new : Live newD := ⟨rfl, rfl, by decide, newD_ok⟩
end Go.Proofs.YtcbepjepcabllaaGreatDoor
/- Errors: what fault makes, errors.Is of it. -/
set_option linter.unusedVariables false
namespace Go.Proofs.YtcbepjepcabllaaGreatDoor
open Go Go.RowKit Go.Extern.Stop Go.Stop Go.Extern

/-! errors.Is of such an error: closed facts on the types, then the walk. -/
theorem callTypeOf (n : Int) (w : World) : (callFunc 71 #[.iface 62 (.int .i64 n)]).run Tryz.prog w = .ok (.value (.iface 138 (.agg #[.pointer (some ⟨2, 62, none⟩)]))) w := by kernel_rfl
theorem callComparable (w : World) : (callFunc 131 #[.agg #[.pointer (some ⟨2, 62, none⟩)]]).run Tryz.prog w = .ok (.value (.bool true)) w := by kernel_rfl
theorem hasIs (v : Value) (xT : TypeId) (w : World) : (Instr.typeAssert (.iface 84 v) xT 140 true).run Tryz.prog w = .ok (.tuple #[.iface 84 v, .bool true]) w := run_typeAssert_hasB Tryz.underlying140 (by kernel_rfl) v xT w

theorem mComparable (v : Value) (w : World) : (Go.method 286 138 v "Comparable").run Tryz.prog w = .ok (131, v) w := by kernel_rfl
theorem mIs (v : Value) (w : World) : (Go.method 286 84 v "Is").run Tryz.prog w = .ok (123, v) w := by kernel_rfl
theorem asErrno (n : Int) (w : World) : (Instr.typeAssert (.iface 62 (.int .i64 n)) 37 62 true).run Tryz.prog w = .ok (.tuple #[.int .i64 n, .bool true]) w := by kernel_rfl
theorem asFault (a : Option Addr) (w : World) : (Instr.typeAssert (.iface 84 (.pointer a)) 37 84 true).run Tryz.prog w = .ok (.tuple #[.pointer a, .bool true]) w := by kernel_rfl

set_option maxHeartbeats 400000 in
theorem faultIs_true (b : Nat) (c a : Int) (w : World) (h : FaultAt w b c a) :
    Calls Tryz.prog 123 #[.pointer (some ⟨b, 0, none⟩), .iface 62 (.int .i64 c)] w fun e w' => e = .returned (.bool true) ∧ w = w' := by
  have c0 := h.cell0
  have hA := asErrno
  go_enter Tryz.func123, Tryz.ntmps123
  go_wp2
  go_ret
  exact ⟨rfl, rfl⟩

set_option maxHeartbeats 1000000 in
theorem errorsis_true (b : Nat) (c a : Int) (w : World) (h : FaultAt w b c a) :
    Calls Tryz.prog 72 #[.iface 84 (.pointer (some ⟨b, 0, none⟩)), .iface 62 (.int .i64 c), .bool true] w fun e w' => e = .returned (.bool true) ∧ w = w' := by
  have hty := run_eql_iface_types (P := Tryz.prog) 84 62 (.pointer (some ⟨b, 0, none⟩)) (.int .i64 c) Tryz.underlying37 (by decide) w
  have hI := hasIs
  have mI := mIs
  go_enter Tryz.func72, Tryz.ntmps72
  go_wp2
  refine wp_loop_rounds 1 ?_
  rw [rounds_succ]
  go_wp2_with (go_at_call 123; refine (faultIs_true b c a _ h).mono ?_; rintro e w' ⟨rfl, rfl⟩)
  go_ret
  exact ⟨rfl, rfl⟩

set_option maxHeartbeats 400000 in
theorem errorsIs_true (b : Nat) (c a : Int) (w : World) (h : FaultAt w b c a) :
    Calls Tryz.prog 48 #[.iface 84 (.pointer (some ⟨b, 0, none⟩)), .iface 62 (.int .i64 c)] w fun e w' => e = .returned (.bool true) ∧ w = w' := by
  have tT := callTypeOf
  have cT := callComparable
  have mC := mComparable
  go_enter Tryz.func48, Tryz.ntmps48
  go_wp2_with (go_at_call 72; refine (errorsis_true b c a _ h).mono ?_; rintro e w' ⟨rfl, rfl⟩)
  go_ret
  exact ⟨rfl, rfl⟩
end Go.Proofs.YtcbepjepcabllaaGreatDoor
/- The law's helpers: pick, texts, same, is. -/
set_option linter.unusedVariables false
set_option linter.unusedSimpArgs false
namespace Go.Proofs.YtcbepjepcabllaaGreatDoor
open Go Go.RowKit
def pickZ (c n : Int) : Int := if c < 0 then (-(c + 1)) % n else c % n
set_option maxHeartbeats 1000000 in
theorem pick_any (c n : Int) (w : World) (hn : 1 ≤ n ∧ n ≤ 1000) (hc : -9223372036854775808 ≤ c ∧ c ≤ 9223372036854775807) :
    Calls Tryz.prog 6 #[.int .i64 c, .int .i64 n] w fun e w' => e = .returned (.int .i64 (pickZ c n)) ∧ w = w' := by
  unfold pickZ
  by_cases h : c < 0
  · have g1 : decide (c < 0) = true := decide_eq_true h
    have b1 : 0 ≤ -(c + 1) % n := Int.emod_nonneg _ (by omega)
    have b2 : -(c + 1) % n < n := Int.emod_lt_of_pos _ (by omega)
    have e1 : Int.tmod (-(c + 1)) n = -(c + 1) % n := Int.tmod_eq_emod_of_nonneg (by omega)
    rw [if_pos h]
    have g2 : (n == 0) = false := by simp; omega
    go_enter Tryz.func6, Tryz.ntmps6
    go_wp2_with fail
    go_ret
    exact ⟨ret_int (by first | rfl | omega | (simp [e1])), rfl⟩
  · have g1 : decide (c < 0) = false := decide_eq_false h
    have b1 : 0 ≤ c % n := Int.emod_nonneg _ (by omega)
    have b2 : c % n < n := Int.emod_lt_of_pos _ (by omega)
    have e1 : Int.tmod c n = c % n := Int.tmod_eq_emod_of_nonneg (by omega)
    rw [if_neg h]
    have g2 : (n == 0) = false := by simp; omega
    go_enter Tryz.func6, Tryz.ntmps6
    go_wp2_with fail
    go_ret
    exact ⟨ret_int (by first | rfl | omega | (simp [e1])), rfl⟩
theorem pickZ_lt (c n : Int) (hn : 1 ≤ n) : 0 ≤ pickZ c n ∧ pickZ c n < n := by
  unfold pickZ
  split
  · exact ⟨Int.emod_nonneg _ (by omega), Int.emod_lt_of_pos _ (by omega)⟩
  · exact ⟨Int.emod_nonneg _ (by omega), Int.emod_lt_of_pos _ (by omega)⟩
set_option maxRecDepth 100000 in
set_option maxHeartbeats 1000000 in
theorem same_any (A B : Option Addr) (ca cb : Nat) (a b : List (List UInt8)) (w : World) (hA : StrsAt w A a.length a) (hB : StrsAt w B b.length b) (hal : a.length ≤ 1000000) (hbl : b.length ≤ 281474976710656) :
    Calls Tryz.prog 69 #[.slice A a.length ca, .slice B b.length cb] w fun e w' => e = .returned (.bool (decide (a = b))) ∧ Q w w' := by
  obtain ⟨R, hR⟩ : ∃ R, decide (a = b) = R := ⟨_, rfl⟩
  rw [hR]
  have HA := Lib.hid hA
  have HB := Lib.hid hB
  have HR := Lib.hid hR
  clear hA hB hR
  go_enter Tryz.func69, Tryz.ntmps69
  by_cases hl : a.length = b.length
  · have g1 : ((a.length : Int) != (b.length : Int)) = false := by simp [hl]
    have HL := Lib.hid hl
    obtain ⟨N, hN⟩ : ∃ N, a.length = N := ⟨_, rfl⟩
    obtain ⟨M, hM⟩ : ∃ N, b.length = N := ⟨_, rfl⟩
    rw [hN] at HA g1 hal ⊢
    rw [hM] at HB g1 hbl ⊢
    have HN := Lib.hid hN
    have HM := Lib.hid hM
    clear hl hN hM
    go_wp2_with fail
    go_loopw [5] (fun iv wr => ∃ i : Nat, i ≤ N ∧ iv = .int .i64 (i : Int) ∧ Hid (a.take i = b.take i) ∧ Hid (Q w wr)) (fun iv _ => N - (intOf iv).toNat)
    case atStart => exact ⟨0, by omega, rfl, rfl, Q.refl _⟩
    case round =>
      obtain ⟨i, hi, rfl, HT, HQ⟩ := hrel
      by_cases hlt : i < N
      · have g2 : decide (i < N) = true := decide_eq_true hlt
        have hltm : i < M := by have h1 := HN.out; have h2 := HM.out; have h3 := HL.out; omega
        obtain ⟨ad, rfl, hca⟩ := HA.out.at hlt
        obtain ⟨bd, rfl, hcb⟩ := HB.out.at hltm
        have ka : ∀ m : QW wr, m.val.cell? (ad.add i) = some (.string ⟨(gL a i).toArray⟩) := fun m => (HQ.out.trans m.le).cell hca
        have kb : ∀ m : QW wr, m.val.cell? (bd.add i) = some (.string ⟨(gL b i).toArray⟩) := fun m => (HQ.out.trans m.le).cell hcb
        have hta : a.take (i + 1) = a.take i ++ [gL a i] := by
          rw [List.take_succ_eq_append_getElem (by have := HN.out; omega)]; congr 2; simp [gL, List.getD, show i < a.length by have := HN.out; omega]
        have htb : b.take (i + 1) = b.take i ++ [gL b i] := by
          rw [List.take_succ_eq_append_getElem (by have := HM.out; omega)]; congr 2; simp [gL, List.getD, show i < b.length by have := HM.out; omega]
        have HTA := Lib.hid hta
        have HTB := Lib.hid htb
        obtain ⟨x, hx⟩ : ∃ x, gL a i = x := ⟨_, rfl⟩
        obtain ⟨y, hy⟩ : ∃ x, gL b i = x := ⟨_, rfl⟩
        rw [hx] at ka HTA
        rw [hy] at kb HTB
        clear hta htb hx hy hca hcb
        go_upto_region 6 with (fail)
        refine wp_region_q (by kernel_rfl) (by kernel_rfl) ?_
        (repeat (go_big_quiet_step (fail)))
        refine wpQuiet_nil ?_
        rintro wa ⟨ma, hma⟩
        have hqa : Q wr wa := by rw [hma]; exact ma.le
        have HQa := Lib.hid (HQ.out.trans hqa)
        clear hma ma hqa ka kb HQ
        obtain ⟨t, ht⟩ : ∃ t, (!x == y) = t := ⟨_, rfl⟩
        rw [ht]
        cases t with
        | false =>
          have hxy : x = y := by simpa using ht
          have HT2 : Hid (a.take (i + 1) = b.take (i + 1)) := Lib.hid (by rw [HTA.out, HTB.out, HT.out, hxy])
          clear ht hxy
          go_wp2_with fail
          go_roundw
          case rel => exact ⟨i + 1, by omega, by go_num, HT2.out, HQa.out⟩
          case measure => simp [intOf]; omega
        | true =>
          have hxy : ¬ x = y := by simpa using ht
          have hR0 : R = false := by
            rw [← HR.out]
            refine decide_eq_false fun e => hxy ?_
            have h1 := HTA.out
            rw [e, HTB.out] at h1
            have := List.append_inj_right' h1 rfl
            simpa using this.symm
          subst hR0
          clear ht hxy
          go_wp2_with fail
          go_ret
          exact ⟨rfl, HQa.out⟩
      · have g2 : decide (i < N) = false := decide_eq_false hlt
        obtain rfl : i = N := by omega
        have hR1 : R = true := by
          rw [← HR.out]
          refine decide_eq_true ?_
          have h1 := HT.out
          rwa [List.take_of_length_le (by rw [HN.out]; exact Nat.le_refl _), List.take_of_length_le (by have := HN.out; have := HL.out; omega)] at h1
        subst hR1
        clear hlt
        go_wp2_with fail
        go_ret
        exact ⟨rfl, HQ.out⟩
  · have g1 : ((a.length : Int) != (b.length : Int)) = true := by simp; omega
    have hR0 : R = false := by
      rw [← HR.out]
      exact decide_eq_false fun e => hl (by rw [e])
    subst hR0
    clear hl
    go_wp2_with fail
    go_ret
    exact ⟨rfl, Q.refl _⟩
def textsL (ls : List (List UInt8)) (many long : Nat) : List (List UInt8) := (ls.take many).map (·.take long)
set_option maxRecDepth 100000 in
set_option maxHeartbeats 1000000 in
theorem is_full (v : Value) (w : World) (h : ErrIs w v 12 0) : Calls Tryz.prog 20 #[v, .int .i64 12] w fun e w' => e = .returned (.bool true) ∧ w = w' := by
  rcases h with ⟨h, _⟩ | ⟨_, b, rfl, hf⟩
  · cases h
  have c0 := hf.cell0
  have c1 := hf.cell1
  have c2 := hf.cell2
  have HF := Lib.hid hf
  have hA := asFault
  clear hf
  go_enter Tryz.func20, Tryz.ntmps20
  go_wp2_with (go_at_call 48; refine (errorsIs_true b 12 0 _ HF.out).mono ?_; rintro e w' ⟨rfl, rfl⟩)
  go_ret
  exact ⟨rfl, rfl⟩
end Go.Proofs.YtcbepjepcabllaaGreatDoor
/- A journal's wrap and broken; errors.Is of what they make. -/
set_option linter.unusedVariables false
set_option linter.unusedSimpArgs false
namespace Go.Proofs.YtcbepjepcabllaaGreatDoor
open Go Go.RowKit
theorem as_any (b bt : Nat) (w : World) (he : ErrT w) (ht : w.heap[bt]? = some (.cells #[.pointer none] 84 (0, 0))) :
    Calls Tryz.prog 49 #[.iface 84 (.pointer (some ⟨b, 0, none⟩)), .iface 90 (.pointer (some ⟨bt, 0, none⟩))] w fun e w' => e = .returned (.bool true) ∧ w'.heap[bt]? = some (.cells #[.pointer (some ⟨b, 0, none⟩)] 84 (0, 0)) ∧ w.grownBy w' (some bt) := by
  have c0 : w.cell? ⟨bt, 0, none⟩ = some (.pointer none) := by rw [cell_of_row _ _ _ _ _ _ ht]; rfl
  refine (as_hit ⟨b, 0, none⟩ ⟨bt, 0, none⟩ _ w he c0 (frozen_of_row w bt 0 _ _ ht)).mono ?_
  rintro e w' ⟨rfl, rfl⟩
  obtain ⟨W, hW⟩ : ∃ W, ((((w.alloc (.cells #[.pointer (some ⟨bt, 0, none⟩)] 90)).alloc (.cells #[.pointer (some ⟨2, 90, none⟩), .pointer (some ⟨w.heap.size, 0, none⟩), .int .u64 150] 117)).alloc (.cells #[.pointer (some ⟨2, 90, none⟩), .pointer (some ⟨w.heap.size, 0, none⟩), .int .u64 150] 117)).alloc (.cells #[.pointer (some ⟨b, 0, none⟩)] 84)) = W := ⟨_, rfl⟩
  have hq : Q w W := by rw [← hW]; exact ((((Q.refl w).alloc _).alloc _).alloc _).alloc _
  rw [hW]
  refine ⟨rfl, ?_, gb_set (hq.gb (some bt)) 0 _⟩
  rw [heap_setCell_any W bt 0 _ _ _ _ (hq.block ht)]; rfl
/-- What wrap makes of a disk's error. -/
def WrapAt (w : World) (b : Nat) (c : Int) : Prop := ∃ b2, w.heap[b]? = some (.cells #[.int .i64 c, .int .i64 0, .iface 84 (.pointer (some ⟨b2, 0, none⟩))] 87 (0, 0)) ∧ FaultAt w b2 c 0
theorem WrapAt.q {w w' : World} {b : Nat} {c : Int} (h : WrapAt w b c) (hq : Q w w') : WrapAt w' b c := by
  obtain ⟨b2, h1, h2⟩ := h
  exact ⟨b2, hq.block h1, h2.q hq⟩
theorem WrapAt.cell0 {w : World} {b : Nat} {c : Int} (h : WrapAt w b c) : w.cell? ⟨b, 0, none⟩ = some (.int .i64 c) := by
  obtain ⟨b2, h1, _⟩ := h
  rw [cell_of_row _ _ _ _ _ _ h1]; rfl
theorem gb_q {w0 W w' : World} {k : Nat} (hg : W.grownBy w' (some k)) (hq : Q w0 W) (hk : w0.heap.size ≤ k) : Q w0 w' :=
  Q.below hq ⟨hg.os, hg.tape, hg.output, by have := hg.size; have := hq.size; omega, fun i hi => hg.block i (Nat.lt_of_lt_of_le hi hq.size) (fun e => by injection e with e; omega)⟩
set_option maxHeartbeats 1000000 in
theorem jwrap_any (b : Nat) (c : Int) (w : World) (hf : FaultAt w b c 0) (he : ErrT w) :
    Calls Tryz.prog 32 #[.iface 84 (.pointer (some ⟨b, 0, none⟩))] w fun e w' => (∃ b', e = .returned (.iface 84 (.pointer (some ⟨b', 0, none⟩))) ∧ WrapAt w' b' c) ∧ Q w w' := by
  have hq1 : Q w (w.alloc (.cells #[.pointer none] 84)) := (Q.refl w).alloc _
  have HA := Lib.hid (as_any b w.heap.size (w.alloc (.cells #[.pointer none] 84)) (he.q hq1) (MapKept.heap_alloc w _).1)
  have HQ1 := Lib.hid hq1
  have HF := Lib.hid hf
  clear hq1 hf he
  go_enter Tryz.func32, Tryz.ntmps32
  go_wp2_with fail
  refine HA.out.mono ?_
  rintro e w2 ⟨rfl, hh, hg⟩
  have hq2 : Q w w2 := gb_q hg HQ1.out (Nat.le_refl _)
  have HF2 := HF.out.q hq2
  have c0 := HF2.cell0
  have c1 : w2.cell? ⟨w.heap.size, 0, none⟩ = some (.pointer (some ⟨b, 0, none⟩)) := by rw [cell_of_row _ _ _ _ _ _ hh]; rfl
  have HFF := Lib.hid HF2
  have HQ2 := Lib.hid hq2
  have hb : (w2.alloc (.cells #[.int .i64 c, .int .i64 0, .iface 84 (.pointer (some ⟨b, 0, none⟩))] 87)).heap[w2.heap.size]? = some (.cells #[.int .i64 c, .int .i64 0, .iface 84 (.pointer (some ⟨b, 0, none⟩))] 87 (0, 0)) := (MapKept.heap_alloc w2 _).1
  have hq3 : Q w2 (w2.alloc (.cells #[.int .i64 c, .int .i64 0, .iface 84 (.pointer (some ⟨b, 0, none⟩))] 87)) := (Q.refl w2).alloc _
  have HR : Hid ((∃ b', (Value.iface 84 (.pointer (some ⟨w2.heap.size, 0, none⟩))) = (.iface 84 (.pointer (some ⟨b', 0, none⟩))) ∧ WrapAt (w2.alloc (.cells #[.int .i64 c, .int .i64 0, .iface 84 (.pointer (some ⟨b, 0, none⟩))] 87)) b' c) ∧ Q w (w2.alloc (.cells #[.int .i64 c, .int .i64 0, .iface 84 (.pointer (some ⟨b, 0, none⟩))] 87))) :=
    Lib.hid ⟨⟨_, rfl, b, hb, HF2.q hq3⟩, hq2.trans hq3⟩
  clear hb hq3 hh hg HF2 hq2
  go_wp2_with fail
  go_ret
  obtain ⟨⟨b', h1, h2⟩, h3⟩ := HR.out
  exact ⟨⟨b', by rw [← h1]; rfl, h2⟩, h3⟩
end Go.Proofs.YtcbepjepcabllaaGreatDoor
