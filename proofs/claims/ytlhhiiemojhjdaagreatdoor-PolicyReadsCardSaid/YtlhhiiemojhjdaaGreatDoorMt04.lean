/- Texts of this proof, laid into one: KbF, KaJ, KbG, KbH, KbI. -/
import Derived.Test.YtlhhiiemojhjdaaGreatDoorMt03
import Derived.Lib.MapLaws
import Derived.Lib.Bytealg
import Derived.Lib.SlBytesConst
import Derived.Shelf.Strings.BuilderK
import Derived.Shelf.Strings.BuilderRune
set_option linter.unusedVariables false
set_option linter.unusedSimpArgs false
namespace Go.Proofs.YtlhhiiemojhjdaaGreatDoor
open Go Go.RowKit
theorem gB_drop (l : Txt) (i : Nat) (h : i < l.length) : l.drop i = gB l i :: l.drop (i + 1) := drop_at h
theorem GX.cellJ {S : List Nat} {a b : World} (h : GX S a b) {p : Addr} {v : Value} (hk : p.block ∉ S) (hc : a.cell? p = some v) : b.cell? p = some v := by
  have hlt := lt_of_cell hc
  unfold World.cell? at *
  rw [h.block _ hlt hk]; exact hc
def WordSt (b : Nat) (s : Txt) (N : PR Unit) (wd : Txt) (i : Nat) (w W : World) : Prop := ∃ q, q ≤ s.length ∧ RdB W b s q ∧ GX [b] w W ∧ N = wordR (wd.drop i) (s.drop q)
set_option maxRecDepth 100000 in
theorem word_any (b : Nat) (s : Txt) (p : Nat) (wd : Txt) (w : World) (h : RdB w b s p) (hp : p ≤ s.length) (hl : s.length ≤ 1000000000) (hw : wd.length ≤ 1000) :
    Calls Tryz.prog 65 #[.pointer (some ⟨b, 0, none⟩), .string ⟨wd.toArray⟩] w (UnitP b s (wordR wd (s.drop p)) w) := by
  obtain ⟨v, w1, hcv, hown, hq1, cap, rfl⟩ := bytes_of wd w (by omega)
  obtain ⟨N, hN⟩ : ∃ N, wordR wd (s.drop p) = N := ⟨_, rfl⟩
  rw [hN]
  have HS : Hid (WordSt b s N wd 0 w w1) := Lib.hid ⟨p, hp, h.q hq1, GX.q hq1, hN.symm⟩
  have HG := Lib.hid (GX.refl [b] w1)
  have HOW := Lib.hid hown
  have HB := Lib.hid h.lt
  clear h hN hown hq1
  go_enter Tryz.func65, Tryz.ntmps65
  go_wp2_with fail
  clear hcv
  go_loopw [9] (fun i wx => ∃ k : Nat, k ≤ wd.length ∧ i = .int .i64 k ∧ Hid (WordSt b s N wd k w wx ∧ GX [b] w1 wx)) (fun i _ => wd.length - (intOf i).toNat)
  case atStart => exact ⟨0, Nat.zero_le _, rfl, Lib.hid ⟨HS.out, HG.out⟩⟩
  case round =>
    obtain ⟨k, hk, rfl, HI⟩ := hrel
    rename World => wa
    by_cases hlt : k < wd.length
    · have hd : decide (k < wd.length) = true := by simpa using hlt
      obtain ⟨g, cc, hv, _, _, _, hcell⟩ := HOW.out.pos (by omega)
      cases hv
      have cx := HI.out.2.cellJ (by simp; have := HB.out; omega) (hcell k hlt).1
      obtain ⟨q, hq, hR, hG, hN⟩ := HI.out.1
      rw [gB_drop wd k hlt] at hN
      have HN : Hid (N = (takeR (gB wd k) (s.drop q)).bind fun _ t => wordR (wd.drop (k + 1)) t) := Lib.hid hN
      have HT := Lib.hid (fun W (h : RdB W b s q) => take_any b s q (gB wd k) W h hq (by omega))
      have HR := Lib.hid hR
      have HG1 := Lib.hid hG
      obtain ⟨T, hT⟩ : ∃ T, takeR (gB wd k) (s.drop q) = T := ⟨_, rfl⟩
      rw [hT] at HN HT
      clear hcell hR hG hN hT
      go_wp2_with fail
      refine (HT.out _ HR.out).mono ?_
      intro e w2 hU
      have HU := Lib.hid hU
      clear hU cx
      rcases T with ⟨x, r⟩ | ⟨c, n⟩
      · obtain ⟨rfl, ⟨q2, h1, h2, h3⟩, h4⟩ := HU.out
        have HS2 : Hid (WordSt b s N wd (k + 1) w w2 ∧ GX [b] w1 w2) := Lib.hid ⟨⟨q2, h1, h3, HG1.out.trans h4, by rw [HN.out, h2]; rfl⟩, HI.out.2.trans h4⟩
        clear h2 h3 h4
        go_wp2_with fail
        go_roundw
        case rel => exact ⟨k + 1, by omega, by go_num, HS2⟩
        case measure => simp [intOf]; omega
      · obtain ⟨⟨bf, rfl, hf⟩, hg⟩ := HU.out
        have HX : Hid (UnitP b s N w (.panicked [{ v := .iface 32 (.pointer (some ⟨bf, 0, none⟩)), recovered := false }]) w2) := Lib.hid (by
          rw [HN.out]
          exact ⟨⟨bf, rfl, hf⟩, HG1.out.trans hg⟩)
        clear hf hg
        go_wp2_with fail
        exact ⟨rfl, HX.out⟩
    · have hd : decide (k < wd.length) = false := by simpa using hlt
      obtain rfl : k = wd.length := by omega
      obtain ⟨q, hq, hR, hG, hN⟩ := HI.out.1
      have HX : Hid (UnitP b s N w (.returned (.tuple #[])) wa) := Lib.hid (by
        rw [hN, List.drop_length]; exact ⟨rfl, ⟨q, hq, rfl, hR⟩, hG⟩)
      clear hR hG hN
      go_wp2_with fail
      go_end0
      exact HX.out
end Go.Proofs.YtlhhiiemojhjdaaGreatDoor
set_option linter.unusedVariables false
set_option linter.unusedSimpArgs false
namespace Go.Proofs.YtlhhiiemojhjdaaGreatDoor
open Go Go.RowKit
theorem dec_ascii {b : UInt8} (t : List UInt8) (h : b.toNat < 128) : Lib.decodeL (b :: t) = (b.toNat, 1) := by
  rw [Lib.decodeL_N]
  show Lib.decodeN _ b.toNat _ _ _ = _
  unfold Lib.decodeN
  rw [if_pos h]
theorem dec_high {b : UInt8} (t : List UInt8) (h : ¬ b.toNat < 128) : 128 ≤ (Lib.decodeL (b :: t)).1 := by
  rw [Lib.decodeL_N]
  show 128 ≤ (Lib.decodeN _ b.toNat _ _ _).1
  unfold Lib.decodeN
  rw [if_neg h]
  generalize ((b :: t).getD 1 0).toNat = b1
  generalize ((b :: t).getD 2 0).toNat = b2
  generalize ((b :: t).getD 3 0).toNat = b3
  repeat' split
  all_goals (dsimp only; omega)
theorem dec_top (l : List UInt8) (h : l ≠ []) : (Lib.decodeL l).1 ≤ 1114111 := by
  cases l with
  | nil => exact absurd rfl h
  | cons b t =>
    rw [Lib.decodeL_N]
    show (Lib.decodeN _ b.toNat _ _ _).1 ≤ _
    have := b.toNat_lt
    unfold Lib.decodeN
    generalize ((b :: t).getD 1 0).toNat = b1
    generalize ((b :: t).getD 2 0).toNat = b2
    generalize ((b :: t).getD 3 0).toNat = b3
    repeat' split
    all_goals (dsimp only; omega)
theorem dec_k (l : List UInt8) (h : l ≠ []) : 1 ≤ (Lib.decodeL l).2 ∧ (Lib.decodeL l).2 ≤ 4 ∧ (Lib.decodeL l).2 ≤ l.length := by
  have h1 := Lib.decodeL_width l
  have h2 := Lib.decodeL_le l h
  refine ⟨by omega, ?_, h2⟩
  rw [Lib.decodeL_N]
  unfold Lib.decodeN
  repeat' split
  all_goals simp
theorem dec_go (l : List UInt8) (h : l ≠ []) : Lib.decodeGoB ⟨l.toArray⟩ = Lib.decodeL l := by
  unfold Lib.decodeGoB Lib.decodeL
  rw [if_neg]
  cases l with
  | nil => exact absurd rfl h
  | cons b t => simp [ByteArray.size]
theorem or_hex (n v : Nat) (hn : n < 4096) (hv : v < 16) : bits .or .i64 ((n : Int) * 16) (v : Int) = ((16 * n + v : Nat) : Int) := by
  have h0 : n * 16 ||| v = 16 * n + v := by
    have := Nat.shiftLeft_add_eq_or_of_lt (i := 4) (b := v) (by omega) n
    rw [Nat.shiftLeft_eq, show (2 : Nat) ^ 4 = 16 from rfl] at this
    omega
  have h1 : (BitVec.ofInt 64 ((n : Int) * 16)).toNat = n * 16 := by
    rw [show ((n : Int) * 16) = ((n * 16 : Nat) : Int) by omega, BitVec.ofInt_natCast, BitVec.toNat_ofNat]; exact Nat.mod_eq_of_lt (by omega)
  have h2 : (BitVec.ofInt 64 (v : Int)).toNat = v := by
    rw [BitVec.ofInt_natCast, BitVec.toNat_ofNat]; exact Nat.mod_eq_of_lt (by omega)
  show IntKind.i64.wrap ((BitVec.ofInt 64 ((n : Int) * 16) ||| BitVec.ofInt 64 (v : Int)).toNat : Int) = _
  rw [BitVec.toNat_or, h1, h2, h0, IntKind.wrap_i64]
  omega
def unitAt (f i n : Nat) (l : List UInt8) : PR Nat := match i with
  | 0 => unitR f l
  | 1 => (mustR f 117 l).bind fun _ u => fourR f 4 0 u
  | k + 2 => fourR f (4 - k) n l
theorem unit_nil (f i n : Nat) (h : i < 6) : unitAt f i n [] = .bad 54 0 := by
  match i, h with
  | 0, _ => rfl
  | 1, _ => rfl
  | 2, _ => rfl
  | 3, _ => rfl
  | 4, _ => rfl
  | 5, _ => rfl
def wantB : List UInt8 := [92, 117, 48, 48, 48, 48]
theorem unit_two (f i : Nat) (b : UInt8) (t : List UInt8) (h : i < 2) : unitAt f i 0 (b :: t) = if b = gB wantB i then unitAt f (i + 1) 0 t else .bad 54 f := by
  match i, h with
  | 0, _ =>
    show ((mustR f 92 (b :: t)).bind fun _ t => (mustR f 117 t).bind fun _ u => fourR f 4 0 u) = _
    rw [mustR]
    show _ = if b = 92 then (mustR f 117 t).bind fun _ u => fourR f 4 0 u else _
    by_cases e : b = 92
    · rw [if_pos e, if_pos e]; rfl
    · rw [if_neg e, if_neg e]; rfl
  | 1, _ =>
    show ((mustR f 117 (b :: t)).bind fun _ u => fourR f 4 0 u) = _
    rw [mustR]
    show _ = if b = 117 then fourR f 4 0 t else _
    by_cases e : b = 117
    · rw [if_pos e, if_pos e]; rfl
    · rw [if_neg e, if_neg e]; rfl
theorem unit_hex (f i n : Nat) (b : UInt8) (t : List UInt8) (h : 2 ≤ i) (h6 : i < 6) : unitAt f i n (b :: t) = match hexJ b with
    | none => .bad 54 f
    | some v => unitAt f (i + 1) (16 * n + v) t := by
  obtain ⟨k, rfl⟩ : ∃ k, i = k + 2 := ⟨i - 2, by omega⟩
  show fourR f (4 - k) n (b :: t) = _
  obtain ⟨m, hm⟩ : ∃ m, 4 - k = m + 1 := ⟨3 - k, by omega⟩
  rw [hm, fourR]
  cases hexJ b with
  | none => rfl
  | some v =>
    show fourR f m _ t = fourR f (4 - (k + 1)) _ t
    rw [show 4 - (k + 1) = m by omega]
theorem unit_end (f n : Nat) (l : List UInt8) : unitAt f 6 n l = .ok n l := rfl
def hexA : List UInt8 := [48, 49, 50, 51, 52, 53, 54, 55, 56, 57, 97, 98, 99, 100, 101, 102, 65, 66, 67, 68, 69, 70]
theorem hex_ix (b : UInt8) : hexJ b = if 16 ≤ Lib.indexByte hexA b then some (Lib.indexByte hexA b - 6).toNat else if 0 ≤ Lib.indexByte hexA b then some (Lib.indexByte hexA b).toNat else none := by
  have h : ∀ n : Fin 256, hexJ n.val.toUInt8 = if 16 ≤ Lib.indexByte hexA n.val.toUInt8 then some (Lib.indexByte hexA n.val.toUInt8 - 6).toNat else if 0 ≤ Lib.indexByte hexA n.val.toUInt8 then some (Lib.indexByte hexA n.val.toUInt8).toNat else none := by decide +kernel
  simpa using h ⟨b.toNat, b.toNat_lt⟩
theorem hex_le (b : UInt8) : Lib.indexByte hexA b ≤ 21 ∧ -1 ≤ Lib.indexByte hexA b := by
  have h : ∀ n : Fin 256, Lib.indexByte hexA n.val.toUInt8 ≤ 21 ∧ -1 ≤ Lib.indexByte hexA n.val.toUInt8 := by decide +kernel
  simpa using h ⟨b.toNat, b.toNat_lt⟩
theorem hexJ_lt {b : UInt8} {v : Nat} (h : hexJ b = some v) : v < 16 := by
  have h1 := hex_le b
  rw [hex_ix] at h
  split at h
  · injection h with h; omega
  · split at h
    · injection h with h; omega
    · cases h
def escF : List UInt8 := [34, 92, 47, 98, 102, 110, 114, 116]
def escT : List UInt8 := [34, 92, 47, 8, 12, 10, 13, 9]
theorem esc_ix (b : UInt8) : simpleE b = if Lib.indexByte escF b < 0 then none else some (gB escT (Lib.indexByte escF b).toNat) := by
  have h : ∀ n : Fin 256, simpleE n.val.toUInt8 = if Lib.indexByte escF n.val.toUInt8 < 0 then none else some (gB escT (Lib.indexByte escF n.val.toUInt8).toNat) := by decide +kernel
  simpa using h ⟨b.toNat, b.toNat_lt⟩
theorem esc_le (b : UInt8) : Lib.indexByte escF b ≤ 7 ∧ -1 ≤ Lib.indexByte escF b := by
  have h : ∀ n : Fin 256, Lib.indexByte escF n.val.toUInt8 ≤ 7 ∧ -1 ≤ Lib.indexByte escF n.val.toUInt8 := by decide +kernel
  simpa using h ⟨b.toNat, b.toNat_lt⟩
theorem four_lt (f : Nat) : ∀ (k n : Nat) (l : List UInt8) (v : Nat) (r : List UInt8), fourR f k n l = .ok v r → v < (n + 1) * 16 ^ k
  | 0, n, l, v, r, h => by
    rw [fourR] at h
    injection h with h1 h2
    omega
  | k + 1, n, [], v, r, h => by rw [fourR] at h; cases h
  | k + 1, n, b :: t, v, r, h => by
    rw [fourR] at h
    cases hx : hexJ b with
    | none => rw [hx] at h; cases h
    | some d =>
      rw [hx] at h
      have h1 := four_lt f k (16 * n + d) t v r h
      have h2 := hexJ_lt hx
      have h3 : (16 * n + d + 1) * 16 ^ k ≤ (16 * (n + 1)) * 16 ^ k := Nat.mul_le_mul_right _ (by omega)
      have h4 : (n + 1) * 16 ^ (k + 1) = (16 * (n + 1)) * 16 ^ k := by rw [Nat.pow_succ, Nat.mul_comm (16 ^ k) 16, ← Nat.mul_assoc, Nat.mul_comm (n + 1) 16]
      omega
theorem enc_len (r : Int) : 1 ≤ (Lib.encodeRune r).length ∧ (Lib.encodeRune r).length ≤ 4 := by
  have := Lib.encodeRuneZ_length r
  unfold Lib.encodeRune
  rw [List.length_map]; exact this
end Go.Proofs.YtlhhiiemojhjdaaGreatDoor
set_option linter.unusedVariables false
set_option linter.unusedSimpArgs false
namespace Go.Proofs.YtlhhiiemojhjdaaGreatDoor
open Go Go.RowKit
def NatP (b : Nat) (s : Txt) (a : PR Nat) (w : World) (e : Ending) (w' : World) : Prop :=
  match a with
  | .ok n r => e = .returned (.int .i64 (n : Int)) ∧ (∃ q, q ≤ s.length ∧ s.drop q = r ∧ RdB w' b s q) ∧ GX [b] w w'
  | .bad c n => Gave b s c n w e w'
def UnitSt (b : Nat) (s : Txt) (N : PR Nat) (f i n : Nat) (w W : World) : Prop := ∃ q, q ≤ s.length ∧ RdB W b s q ∧ GX [b] w W ∧ N = unitAt f i n (s.drop q)
theorem want_get : ∀ k, k < 6 → (#[Value.int .u8 92, .int .u8 117, .int .u8 48, .int .u8 48, .int .u8 48, .int .u8 48] : Array Value)[k]? = some (.int .u8 ((gB wantB k).toNat : Int)) := by
  intro k hk
  have : ∀ x : Fin 6, (#[Value.int .u8 92, .int .u8 117, .int .u8 48, .int .u8 48, .int .u8 48, .int .u8 48] : Array Value)[x.val]? = some (.int .u8 ((gB wantB x.val).toNat : Int)) := by
    intro x
    match x with
    | 0 => rfl
    | 1 => rfl
    | 2 => rfl
    | 3 => rfl
    | 4 => rfl
    | 5 => rfl
  exact this ⟨k, hk⟩
set_option maxRecDepth 100000 in
theorem unit_any (b : Nat) (s : Txt) (p fr : Nat) (w : World) (h : RdB w b s p) (hp : p ≤ s.length) (hl : s.length ≤ 1000000000) (hf : fr ≤ s.length) :
    Calls Tryz.prog 85 #[.pointer (some ⟨b, 0, none⟩), .int .i64 (fr : Int)] w (NatP b s (unitR (s.length - fr) (s.drop p)) w) := by
  obtain ⟨N, hN⟩ : ∃ N, unitR (s.length - fr) (s.drop p) = N := ⟨_, rfl⟩
  rw [hN]
  have HB := Lib.hid h.lt
  have HS0 : Hid (∀ W, Q w W → UnitSt b s N (s.length - fr) 0 0 w W) := Lib.hid (fun W hq => ⟨p, hp, h.q hq, GX.q hq, hN.symm⟩)
  clear h hN
  have kc := fun (w : World) (C : Array Value) (n c : Nat) => Lib.run_convert_bytes_const (P := Tryz.prog) w 104 5 C n c Tryz.underlying104 Tryz.underlying5
  go_enter Tryz.func85, Tryz.ntmps85
  go_wp2_with fail
  clear kc
  obtain ⟨W0, hW0⟩ : ∃ W0, w.alloc (.cells #[.int .u8 92, .int .u8 117, .int .u8 48, .int .u8 48, .int .u8 48, .int .u8 48] 5 (6, 7)) = W0 := ⟨_, rfl⟩
  have HW : Hid (∀ k, k < 6 → W0.cell? ⟨w.heap.size, k, none⟩ = some (.int .u8 ((gB wantB k).toNat : Int))) := Lib.hid (fun k hk => by
    rw [← hW0, cell_of_row _ _ _ _ _ _ (heap_alloc_new w _)]; exact want_get k hk)
  have HS : Hid (UnitSt b s N (s.length - fr) 0 0 w W0) := Lib.hid (HS0.out W0 (by rw [← hW0]; exact (Q.refl w).alloc _))
  rw [hW0]
  clear hW0 HS0
  go_loopw [13, 5] (fun i n wx => ∃ k m : Nat, k ≤ 6 ∧ m < 16 ^ (k - 2) ∧ i = .int .i64 k ∧ n = .int .i64 m ∧ Hid (UnitSt b s N (s.length - fr) k m w wx ∧ GX [b] W0 wx)) (fun i _ _ => 6 - (intOf i).toNat)
  case atStart => exact ⟨0, 0, Nat.zero_le _, by decide, rfl, rfl, Lib.hid ⟨HS.out, GX.refl _ _⟩⟩
  case round =>
    obtain ⟨k, m, hk, hm, rfl, rfl, HI⟩ := hrel
    rename World => wa
    by_cases hlt : k < 6
    · have hd : decide ((k : Int) < 6) = true := by simp; omega
      have cx := HI.out.2.cellJ (by simp; have := HB.out; omega) (HW.out k hlt)
      obtain ⟨q, hq, hR, hG, hN⟩ := HI.out.1
      have HR := Lib.hid hR
      have HG1 := Lib.hid hG
      have HN := Lib.hid hN
      have c0 : ∀ mm : QW wa, mm.val.cell? ⟨b, 0, none⟩ = some (.string ⟨s.toArray⟩) := fun mm => mm.cell HR.out.c0
      have c1 : ∀ mm : QW wa, mm.val.cell? ⟨b, 1, none⟩ = some (.int .i64 (q : Int)) := fun mm => mm.cell HR.out.c1
      have HBad : Hid (∀ f', N = .bad 54 f' → ∀ a : Nat, s.length - f' = a → ∀ (w1 w2 : World) bf, Q wa w1 → FaultJ w2 bf 54 (a : Int) → Q w1 w2 → NatP b s N w (.panicked [{ v := .iface 32 (.pointer (some ⟨bf, 0, none⟩)), recovered := false }]) w2) := Lib.hid (fun f' e a ha w1 w2 bf h1 hf h2 => by
        rw [e]; refine ⟨⟨bf, rfl, ?_⟩, HG1.out.trans (GX.q (h1.trans h2))⟩; rw [ha]; exact hf)
      have hqi : (q : Int) ≤ 1000000000 := by omega
      clear hR hG hN
      by_cases hqs : s.length ≤ q
      · have g1 : decide (s.length ≤ q) = true := by simpa using hqs
        have HX := Lib.hid (HBad.out 0 (by rw [HN.out, List.drop_of_length_le hqs, unit_nil _ _ _ hlt]) q (by omega))
        clear hqs HBad
        go_upto_region 5 with (fail)
        refine wp_region_q (by kernel_rfl) (by kernel_rfl) ?_
        (repeat (go_big_quiet_step (fail)))
        refine wpQuiet_nil ?_
        rintro w1 ⟨m1, hm1⟩
        have hq1 : Q wa w1 := by rw [hm1]; exact m1.le
        clear m1 hm1 c0 c1
        have c1 := (HR.out.q hq1).c1
        have HQ := Lib.hid hq1
        clear hq1
        go_wp2_with fail
        refine (fail_any 54 _ _).mono ?_
        rintro e w2 ⟨⟨bf, rfl, hf⟩, hq2⟩
        have HF := Lib.hid hf
        have HQ2 := Lib.hid hq2
        clear hf hq2
        go_wp2_with fail
        exact ⟨rfl, HX.out _ _ _ HQ.out HF.out HQ2.out⟩
      · have g1 : decide (s.length ≤ q) = false := by simpa using hqs
        have hqlt : q < s.length := by omega
        have hdp := gB_drop s q hqlt
        have HT : Hid (RdB (wa.setCell ⟨b, 1, none⟩ (.int .i64 ((q : Int) + 1))) b s (q + 1)) := Lib.hid (by have := HR.out.set (q + 1); simpa using this)
        have g3 : decide (q < s.length) = true := by simpa using hqlt
        obtain ⟨v, hv⟩ : ∃ v, gB s q = v := ⟨_, rfl⟩
        rw [hv] at hdp
        have HV := Lib.hid hv
        have hN2 := HN.out
        rw [hdp] at hN2
        have HN2 := Lib.hid hN2
        have hvl : (v.toNat : Int) < 256 := by have := v.toNat_lt; omega
        have HNext : Hid (∀ w1 m', Q wa w1 → N = unitAt (s.length - fr) (k + 1) m' (s.drop (q + 1)) → UnitSt b s N (s.length - fr) (k + 1) m' w (w1.setCell ⟨b, 1, none⟩ (.int .i64 ((q : Int) + 1))) ∧ GX [b] W0 (w1.setCell ⟨b, 1, none⟩ (.int .i64 ((q : Int) + 1)))) := Lib.hid (fun w1 m' h1 hn =>
          ⟨⟨q + 1, hqlt, by have := (HR.out.q h1).set (q + 1); simpa using this, (HG1.out.reader h1).set (by simp) _ _, hn⟩, (HI.out.2.reader h1).set (by simp) _ _⟩)
        clear hqs hdp hN2 HT
        go_upto_region 5 with (fail)
        refine wp_region_q (by kernel_rfl) (by kernel_rfl) ?_
        (repeat (go_big_quiet_step (fail)))
        refine wpQuiet_nil ?_
        rintro w1 ⟨m1, hm1⟩
        have hq1 : Q wa w1 := by rw [hm1]; exact m1.le
        clear m1 hm1 c0 c1 g1
        have HQ1 := Lib.hid hq1
        have c0 : ∀ mm : QW w1, mm.val.cell? ⟨b, 0, none⟩ = some (.string ⟨s.toArray⟩) := fun mm => mm.cell (HR.out.q HQ1.out).c0
        have c1 : ∀ mm : QW w1, mm.val.cell? ⟨b, 1, none⟩ = some (.int .i64 (q : Int)) := fun mm => mm.cell (HR.out.q HQ1.out).c1
        clear hq1
        go_upto_region 7 with (fail)
        refine wp_region_q (by kernel_rfl) (by kernel_rfl) ?_
        (repeat (go_big_quiet_step (fail)))
        refine wpQuiet_nil ?_
        rintro w2 ⟨m2, hm2⟩
        have hq2 : Q wa w2 := HQ1.out.trans (by rw [hm2]; exact m2.le)
        clear m2 hm2 c0 c1 g3 hqlt
        have HQ2 := Lib.hid hq2
        have c1 := (HR.out.q hq2).c1
        have f1 := (HR.out.q hq2).f 1
        clear hq2 hv
        by_cases hk2 : k < 2
        · have g1 : decide ((k : Int) < 2) = true := by simp; omega
          have hm0 : m = 0 := by rw [show k - 2 = 0 by omega] at hm; simpa using hm
          subst hm0
          have hu := unit_two (s.length - fr) k v (s.drop (q + 1)) hk2
          by_cases hc : v = gB wantB k
          · have g2 : (((v.toNat : Int)) != ((gB wantB k).toNat : Int)) = false := by rw [hc]; simp
            rw [if_pos hc] at hu
            have HX := Lib.hid (HNext.out w2 0 HQ2.out (HN2.out.trans hu))
            clear hu hc HBad
            go_wp2_with fail
            go_roundw
            case rel => exact ⟨k + 1, 0, by omega, Nat.pow_pos (by decide), by go_num, rfl, HX⟩
            case measure => simp [intOf]; omega
          · have g2 : (((v.toNat : Int)) != ((gB wantB k).toNat : Int)) = true := by
              simp only [bne_iff_ne, ne_eq]; intro e; exact hc (UInt8.toNat_inj.1 (by omega))
            rw [if_neg hc] at hu
            have HX := Lib.hid (HBad.out _ (HN2.out.trans hu) fr (by omega))
            clear hu hc HBad
            go_wp2_with fail
            refine (fail_any 54 _ _).mono ?_
            rintro e w3 ⟨⟨bf, rfl, hf⟩, hq2⟩
            have HF := Lib.hid hf
            have HQ3 := Lib.hid hq2
            clear hf hq2
            go_wp2_with fail
            exact ⟨rfl, HX.out _ _ _ HQ2.out HF.out HQ3.out⟩
        · have g1 : decide ((k : Int) < 2) = false := by simp; omega
          have hu := unit_hex (s.length - fr) k m v (s.drop (q + 1)) (by omega) hlt
          have hx := hex_ix v
          have hz := hex_le v
          have hi : Lib.indexByte hexA ((v.toNat : Int).toNat.toUInt8) = Lib.indexByte hexA v := by simp
          generalize Lib.indexByte hexA v = z at hx hz hi
          have HIB : Hid (∀ W, Calls Tryz.prog 83 #[.string ⟨#[48, 49, 50, 51, 52, 53, 54, 55, 56, 57, 97, 98, 99, 100, 101, 102, 65, 66, 67, 68, 69, 70]⟩, .int .u8 (v.toNat : Int)] W fun e w' => e = .returned (.int .i64 z) ∧ w' = W) := Lib.hid (fun W => by
            have := Tryz.strings_IndexByte ⟨#[48, 49, 50, 51, 52, 53, 54, 55, 56, 57, 97, 98, 99, 100, 101, 102, 65, 66, 67, 68, 69, 70]⟩ (v.toNat : Int) W
            have hi' : Lib.indexByte (⟨#[48, 49, 50, 51, 52, 53, 54, 55, 56, 57, 97, 98, 99, 100, 101, 102, 65, 66, 67, 68, 69, 70]⟩ : ByteArray).data.toList ((v.toNat : Int).toNat.toUInt8) = z := hi
            rw [hi'] at this
            exact this)
          clear hi
          have hpow : m < 4096 := Nat.lt_of_lt_of_le hm (Nat.pow_le_pow_right (n := 16) (by decide) (show k - 2 ≤ 3 by omega))
          have hpow2 : ∀ d, d < 16 → 16 * m + d < 16 ^ (k + 1 - 2) := fun d hd => by
            rw [show k + 1 - 2 = (k - 2) + 1 by omega, Nat.pow_succ]; omega
          have HP := Lib.hid hpow2
          clear hpow2 hm
          by_cases h16 : 16 ≤ z
          · rw [if_pos h16] at hx
            rw [hx] at hu
            have g2 : decide ((16 : Int) ≤ z) = true := by simpa using h16
            obtain ⟨d, hdz⟩ : ∃ d : Nat, (z - 6).toNat = d := ⟨_, rfl⟩
            have hd16 : d < 16 := by omega
            rw [hdz] at hu
            have hw0 : z - 6 = (d : Int) := by omega
            have HX := Lib.hid (HNext.out w2 (16 * m + d) HQ2.out (HN2.out.trans hu))
            have ho := or_hex m d hpow hd16
            have HPd := HP.out d hd16
            have hwr : IntKind.i64.wrap ((m : Int) * 16) = (m : Int) * 16 := by rw [IntKind.wrap_i64]; omega
            clear hu hx hdz HBad
            go_wp2_with fail
            refine (HIB.out _).mono ?_
            rintro e w3 ⟨rfl, rfl⟩
            go_wp2_with fail
            go_roundw
            case rel => exact ⟨k + 1, 16 * m + d, by omega, HPd, by go_num, by go_num, HX⟩
            case measure => simp [intOf]; omega
          · rw [if_neg h16] at hx
            have g2 : decide ((16 : Int) ≤ z) = false := by simpa using h16
            by_cases h0 : 0 ≤ z
            · rw [if_pos h0] at hx
              rw [hx] at hu
              have g3 : decide ((0 : Int) ≤ z) = true := by simpa using h0
              obtain ⟨d, hdz⟩ : ∃ d : Nat, z.toNat = d := ⟨_, rfl⟩
              have hd16 : d < 16 := by omega
              rw [hdz] at hu
              obtain rfl : z = (d : Int) := by omega
              have HX := Lib.hid (HNext.out w2 (16 * m + d) HQ2.out (HN2.out.trans hu))
              have ho := or_hex m d hpow hd16
              have HPd := HP.out d hd16
              have hwr : IntKind.i64.wrap ((m : Int) * 16) = (m : Int) * 16 := by rw [IntKind.wrap_i64]; omega
              clear hu hx hdz HBad
              go_wp2_with fail
              refine (HIB.out _).mono ?_
              rintro e w3 ⟨rfl, rfl⟩
              go_wp2_with fail
              go_roundw
              case rel => exact ⟨k + 1, 16 * m + d, by omega, HPd, by go_num, by go_num, HX⟩
              case measure => simp [intOf]; omega
            · rw [if_neg h0] at hx
              rw [hx] at hu
              have g3 : decide ((0 : Int) ≤ z) = false := by simpa using h0
              have HX := Lib.hid (HBad.out _ (HN2.out.trans hu) fr (by omega))
              clear hu hx HBad
              go_wp2_with fail
              refine (HIB.out _).mono ?_
              rintro e w3 ⟨rfl, rfl⟩
              go_wp2_with fail
              refine (fail_any 54 _ _).mono ?_
              rintro e w4 ⟨⟨bf, rfl, hf⟩, hq2⟩
              have HF := Lib.hid hf
              have HQ3 := Lib.hid hq2
              clear hf hq2
              go_wp2_with fail
              exact ⟨rfl, HX.out _ _ _ HQ2.out HF.out HQ3.out⟩
    · have hd : decide ((k : Int) < 6) = false := by simp; omega
      obtain rfl : k = 6 := by omega
      obtain ⟨q, hq, hR, hG, hN⟩ := HI.out.1
      have HX : Hid (NatP b s N w (.returned (.int .i64 (m : Int))) wa) := Lib.hid (by
        rw [hN, unit_end]; exact ⟨rfl, ⟨q, hq, rfl, hR⟩, hG⟩)
      clear hR hG hN hd
      go_wp2_with fail
      go_ret
      exact HX.out
end Go.Proofs.YtlhhiiemojhjdaaGreatDoor
set_option linter.unusedVariables false
set_option linter.unusedSimpArgs false
namespace Go.Proofs.YtlhhiiemojhjdaaGreatDoor
open Go Go.RowKit
theorem infoB7 : Builder.Extra Tryz.prog lays167_ren := {
  sizeBuilder := by kernel_rfl
  liesBuilder := by kernel_rfl
  t5 := Tryz.underlying5
  a5 := Tryz.isAgg5
  z5 := Tryz.sizeOf5
  v5 := Tryz.zeroValue5
  infoByte := by kernel_rfl
  cellsByte := by kernel_rfl
  sizeByte := by kernel_rfl
  neB5 := by decide }
theorem infoB8 : Builder.Extra Tryz.prog lays168_ren := {
  sizeBuilder := by kernel_rfl
  liesBuilder := by kernel_rfl
  t5 := Tryz.underlying5
  a5 := Tryz.isAgg5
  z5 := Tryz.sizeOf5
  v5 := Tryz.zeroValue5
  infoByte := by kernel_rfl
  cellsByte := by kernel_rfl
  sizeByte := by kernel_rfl
  neB5 := by decide }
def BJ (B ob : Nat) (l : Txt) (w : World) : Prop := Lib.IsBuilderF 123 5 B ob (Lib.byteCells l) w
theorem BJ.new (B : Nat) (w : World) (hq : B ≤ w.heap.size) : BJ B w.heap.size [] (w.alloc (.cells #[.pointer none, .slice none 0 0] 123)) :=
  Lib.IsBuilderF.of (.inl ⟨hq, .slice none 0 0, (MapKept.heap_alloc w _).1, ⟨by simp [Lib.byteCells], .inl ⟨rfl, rfl⟩⟩, by simp [Value.ownBlock]⟩)
theorem BJ.lt {B b : Nat} {l : Txt} {w : World} (h : BJ B b l w) : B ≤ b ∧ b < w.heap.size := by
  rcases h with h | h <;> exact ⟨h.1, h.lt⟩
theorem bjByte (B ob : Nat) (l : Txt) (c : UInt8) (w : World) (h : BJ B ob l w) (hl : l.length + 1 ≤ 140737488355328) (hB : B ≤ w.heap.size) :
    Calls Tryz.prog 84 #[.pointer (some ⟨ob, 0, none⟩), .int .u8 c.toNat] w fun e w' => e = .returned .nilIface ∧ BJ B ob (l ++ [c]) w' ∧ Below B w w' :=
  (Any.Builder_WriteByte_k lays167 infoB7 B ob (Lib.byteCells l) c.toNat w h (by rw [byteCells_length]; exact hl) hB).mono fun e w' ⟨h1, h2, h3, _⟩ =>
    ⟨h1, .inr (by rw [byteCells_append]; exact h2), h3⟩
theorem bjRune (B ob : Nat) (l : Txt) (r : Int) (hr0 : -2147483648 ≤ r) (hr1 : r ≤ 2147483647) (w : World) (h : BJ B ob l w) (hl : l.length + 4 ≤ 140737488355328) (hB : B ≤ w.heap.size) :
    Calls Tryz.prog 76 #[.pointer (some ⟨ob, 0, none⟩), .int .i32 r] w fun e w' => e = .returned (.tuple #[.int .i64 (Lib.encodeRune r).length, .nilIface]) ∧ BJ B ob (l ++ Lib.encodeRune r) w' ∧ Below B w w' :=
  (Any.Builder_WriteRune_k lays168 infoB8 B ob (Lib.byteCells l) r hr0 hr1 w h (by rw [byteCells_length]; exact hl) hB).mono fun e w' ⟨h1, h2, h3, _⟩ =>
    ⟨by rw [h1, Lib.runeCells_length], .inr (by rw [byteCells_append, Lib.byteCells_encodeRune]; exact h2), h3⟩
theorem bjString (B ob : Nat) (l : Txt) (w : World) (h : BJ B ob l w) (hB : B ≤ w.heap.size) :
    Calls Tryz.prog 74 #[.pointer (some ⟨ob, 0, none⟩)] w fun e w' => e = .returned (.string ⟨l.toArray⟩) ∧ Below B w w' :=
  (Tryz.Builder_String_any_k B ob l w h hB).mono fun e w' ⟨h1, _, h3, _⟩ => ⟨h1, h3⟩
theorem BJ.grown {B b : Nat} {l : Txt} {w w' : World} {row : Option Nat} (h : BJ B b l w) (hg : w.grownBy w' row) (hr : ∀ r o, row = some r → w.heap[r]? = some o → (∀ c fz, o ≠ .cells c 5 fz) ∧ r ≠ b) : BJ B b l w' := by
  have go : ∀ p, Lib.BuilderAtF 123 5 B b p (Lib.byteCells l) w → Lib.BuilderAtF 123 5 B b p (Lib.byteCells l) w' := by
    rintro p ⟨h1, v, h2, h3, h4⟩
    have hlt := (Array.getElem?_eq_some_iff.1 h2).1
    refine ⟨h1, v, (hg.block b hlt (fun e => (hr b _ e.symm h2).2 rfl)).trans h2, ?_, h4⟩
    refine h3.kept hg ?_
    rcases hv : v.ownBlock with _ | k
    · exact .inl rfl
    · obtain ⟨c, fz, hc⟩ := Lib.ownsRowF_kind h3 k hv
      exact .inr (fun e => (hr k _ e.symm hc).1 c fz rfl)
  rcases h with h | h
  · exact .inl (go _ h)
  · exact .inr (go _ h)
theorem BJ.q {B b : Nat} {l : Txt} {w w' : World} (h : BJ B b l w) (hq : Q w w') : BJ B b l w' :=
  h.grown (row := none) ⟨hq.os, hq.tape, hq.output, hq.size, fun k hk _ => Below.block hq k hk⟩ (fun _ _ e => by cases e)
theorem BJ.rd {B ob b p : Nat} {l s : Txt} {w w' : World} (h : BJ B ob l w) (hR : RdB w b s p) (hb : b < B) (hg : GX [b] w w') : BJ B ob l w' := by
  refine h.grown (row := some b) ⟨hg.os, hg.tape, hg.output, hg.size, fun k hk hn => hg.block k hk (by simpa using fun e : k = b => hn (by rw [e]))⟩ ?_
  rintro r o e ho
  injection e with e
  subst e
  have h1 := h.lt.1
  refine ⟨fun c fz e2 => ?_, by omega⟩
  unfold RdB at hR
  rw [hR] at ho
  rw [← Option.some.inj ho] at e2
  injection e2 with _ e3 _
  exact absurd e3 (by decide)
theorem GX.below {S : List Nat} {a b c : World} (h : GX S a b) (k : Below a.heap.size b c) : GX S a c :=
  ⟨k.os.trans h.os, k.tape.trans h.tape, k.output.trans h.output, Nat.le_trans h.size k.size, fun i hi hn => (k.block i hi).trans (h.block i hi hn)⟩
theorem RdB.below {B b p : Nat} {s : Txt} {w w' : World} (h : RdB w b s p) (hb : b < B) (k : Below B w w') : RdB w' b s p := (k.block b hb).trans h
end Go.Proofs.YtlhhiiemojhjdaaGreatDoor
set_option linter.unusedVariables false
set_option linter.unusedSimpArgs false
namespace Go.Proofs.YtlhhiiemojhjdaaGreatDoor
open Go Go.RowKit
def EscP (b : Nat) (s : Txt) (a : PR Txt) (w0 : World) (ob : Nat) (l : Txt) (e : Ending) (w' : World) : Prop :=
  match a with
  | .ok t r => e = .returned (.tuple #[]) ∧ (∃ q, q ≤ s.length ∧ s.drop q = r ∧ RdB w' b s q) ∧ GX [b] w0 w' ∧ BJ w0.heap.size ob (l ++ t) w'
  | .bad c n => Gave b s c n w0 e w'
theorem drop2 {s : Txt} {p : Nat} (h : p + 1 < s.length) : s.drop p = gB s p :: gB s (p + 1) :: s.drop (p + 1 + 1) := by
  rw [gB_drop s p (by omega), gB_drop s (p + 1) h]
def EscD (b : Nat) (s : Txt) (N : PR Txt) (w0 : World) (ob : Nat) (l : Txt) (q n : Nat) (w : World) : Prop :=
  N = .ok (Lib.encodeRune (n : Int)) (s.drop q) ∧ q ≤ s.length ∧ n ≤ 1114111 ∧ b < w0.heap.size ∧ l.length ≤ 10000000000 ∧ RdB w b s q ∧ GX [b] w0 w ∧ BJ w0.heap.size ob l w
theorem EscD.write {b : Nat} {s : Txt} {N : PR Txt} {w0 : World} {ob : Nat} {l : Txt} {q n : Nat} {w : World} (h : EscD b s N w0 ob l q n w) :
    Calls Tryz.prog 76 #[.pointer (some ⟨ob, 0, none⟩), .int .i32 (n : Int)] w fun e w' => (∃ x, e = .returned (.tuple #[.int .i64 x, .nilIface])) ∧ EscP b s N w0 ob l (.returned (.tuple #[])) w' := by
  obtain ⟨rfl, h1, h2, h3, h4, h5, h6, h7⟩ := h
  refine (bjRune w0.heap.size ob l (n : Int) (by omega) (by omega) w h7 (by omega) h6.size).mono ?_
  rintro e w' ⟨rfl, g1, g2⟩
  exact ⟨⟨_, rfl⟩, rfl, ⟨q, h1, rfl, h5.below h3 g2⟩, h6.below g2, g1⟩
theorem unit_lt {f : Nat} {l : Txt} {v : Nat} {r : Txt} (h : unitR f l = .ok v r) : v < 65536 := by
  unfold unitR at h
  cases h1 : mustR f 92 l with
  | bad c n => rw [h1] at h; cases h
  | ok x t =>
    rw [h1] at h
    have h : (mustR f 117 t).bind (fun _ u => fourR f 4 0 u) = .ok v r := h
    cases h2 : mustR f 117 t with
    | bad c n => rw [h2] at h; cases h
    | ok y u =>
      rw [h2] at h
      have := four_lt f 4 0 u v r h
      omega
set_option maxRecDepth 100000 in
theorem escape_any (b : Nat) (s : Txt) (p : Nat) (w0 w : World) (ob : Nat) (l : Txt) (h : RdB w b s p) (hg : GX [b] w0 w) (hb : b < w0.heap.size) (hB : BJ w0.heap.size ob l w) (hp : p < s.length) (h92 : gB s p = 92) (hl : s.length ≤ 1000000000) (hll : l.length ≤ 10000000000) :
    Calls Tryz.prog 75 #[.pointer (some ⟨b, 0, none⟩), .pointer (some ⟨ob, 0, none⟩)] w (EscP b s (escR (s.drop p)) w0 ob l) := by
  obtain ⟨N, hN⟩ : ∃ N, escR (s.drop p) = N := ⟨_, rfl⟩
  rw [hN]
  have H := Lib.hid h
  have HG := Lib.hid hg
  have HBJ := Lib.hid hB
  have HN := Lib.hid hN
  have HB := Lib.hid hb
  have c0 := h.c0
  have c1 := h.c1
  have HBad : Hid (∀ f', N = .bad 54 f' → ∀ a : Nat, s.length - f' = a → ∀ (w1 w2 : World) bf, GX [b] w0 w1 → FaultJ w2 bf 54 (a : Int) → Q w1 w2 → EscP b s N w0 ob l (.panicked [{ v := .iface 32 (.pointer (some ⟨bf, 0, none⟩)), recovered := false }]) w2) := Lib.hid (fun f' e a ha w1 w2 bf h1 hf h2 => by
    rw [e]; refine ⟨⟨bf, rfl, ?_⟩, h1.reader h2⟩; rw [ha]; exact hf)
  clear h hg hB hN hb
  by_cases hend : p + 1 = s.length
  · have g1 : (((p : Int) + 1) == (s.length : Int)) = true := by simp; omega
    have HX := Lib.hid (HBad.out 0 (by rw [← HN.out, gB_drop s p hp, List.drop_of_length_le (by omega : s.length ≤ p + 1)]; rfl) s.length (by omega))
    clear hend HBad h92
    go_enter Tryz.func75, Tryz.ntmps75
    go_wp2_with fail
    refine (fail_any 54 _ _).mono ?_
    rintro e w2 ⟨⟨bf, rfl, hf⟩, hq2⟩
    have HF := Lib.hid hf
    have HQ2 := Lib.hid hq2
    clear hf hq2
    go_wp2_with fail
    exact ⟨rfl, HX.out _ _ _ HG.out HF.out HQ2.out⟩
  · have g1 : (((p : Int) + 1) == (s.length : Int)) = false := by simp; omega
    have hlt : p + 1 < s.length := by omega
    have hdp := drop2 hlt
    obtain ⟨v, hv⟩ : ∃ v, gB s (p + 1) = v := ⟨_, rfl⟩
    rw [h92, hv] at hdp
    have HD := Lib.hid hdp
    have hN := HN.out
    rw [hdp] at hN
    have hvl : (v.toNat : Int) < 256 := by have := v.toNat_lt; omega
    have hlen : (92 :: v :: s.drop (p + 1 + 1)).length = s.length - p := by rw [← hdp, List.length_drop]
    have hesc : N = if v = 117 then (fourR (s.length - p) 4 0 (s.drop (p + 1 + 1))).bind fun c u => codeR (s.length - p) c u
      else match simpleE v with
        | none => .bad 54 (s.length - p)
        | some c => .ok [c] (s.drop (p + 1 + 1)) := by
      rw [← hN, escR, hlen]
      by_cases h : v = 117
      · rw [if_pos h, if_pos h]
      · rw [if_neg h, if_neg h]
        cases simpleE v <;> rfl
    clear hdp hN hlen h92 hend HN
    by_cases hu : v = 117
    · rw [if_pos hu] at hesc
      have HE := Lib.hid hesc
      have g2 : (((v.toNat : Int)) != 117) = false := by rw [hu]; rfl
      have HU0 : Hid (unitR (s.length - p) (s.drop p) = fourR (s.length - p) 4 0 (s.drop (p + 1 + 1))) := Lib.hid (by rw [HD.out, hu]; rfl)
      have HUn := Lib.hid (unit_any b s p p w H.out (by omega) hl (by omega))
      rw [HU0.out] at HUn
      have hfl := four_lt (s.length - p) 4 0 (s.drop (p + 1 + 1))
      obtain ⟨F, hF⟩ : ∃ F, fourR (s.length - p) 4 0 (s.drop (p + 1 + 1)) = F := ⟨_, rfl⟩
      rw [hF] at HE HUn hfl
      have HFL := Lib.hid hfl
      clear hesc hu hF hfl HU0
      go_enter Tryz.func75, Tryz.ntmps75
      go_wp2_with fail
      refine HUn.out.mono ?_
      intro e w1 hU
      have HU := Lib.hid hU
      clear hU c0 c1 HUn g1 g2
      rcases F with ⟨n, r⟩ | ⟨c, k⟩
      · obtain ⟨rfl, ⟨q2, h1, h2, h3⟩, h4⟩ := HU.out
        have hn : n < 65536 := by have := HFL.out n r rfl; omega
        have hR2 := Lib.hid h3
        have hS2 := Lib.hid h2
        have HG2 := Lib.hid (HG.out.trans h4)
        have HBJ2 := Lib.hid (HBJ.out.rd H.out HB.out h4)
        have HE2 : Hid (N = codeR (s.length - p) n r) := Lib.hid HE.out
        have hw32 : IntKind.i32.wrap (n : Int) = (n : Int) := by rw [IntKind.wrap_i32]; omega
        have hsz := Nat.le_trans HG.out.size h4.size
        clear h2 h3 h4 HE HFL
        have HOne : Hid (N = .ok (Lib.encodeRune (n : Int)) r → EscD b s N w0 ob l q2 n w1) := Lib.hid (fun e => ⟨by rw [hS2.out]; exact e, h1, by omega, HB.out, hll, hR2.out, HG2.out, HBJ2.out⟩)
        by_cases hA : 56320 ≤ n ∧ n ≤ 57343
        · have g1 : decide ((56320 : Int) ≤ (n : Int)) = true := by simp; omega
          have g2 : decide ((n : Int) ≤ 57343) = true := by simp; omega
          have HX := Lib.hid (HBad.out (s.length - p) (by rw [HE2.out]; unfold codeR; rw [if_pos hA]) p (by omega))
          clear hA HBad HOne
          go_wp2_with fail
          refine (fail_any 54 _ _).mono ?_
          rintro e w2 ⟨⟨bf, rfl, hf⟩, hq2⟩
          have HF := Lib.hid hf
          have HQ2 := Lib.hid hq2
          clear hf hq2
          go_wp2_with fail
          exact ⟨rfl, HX.out _ _ _ HG2.out HF.out HQ2.out⟩
        · by_cases hB : 55296 ≤ n ∧ n ≤ 56319
          · have g1 : decide ((56320 : Int) ≤ (n : Int)) = false := by simp; omega
            have g2 : decide ((55296 : Int) ≤ (n : Int)) = true := by simp; omega
            have g3 : decide ((n : Int) ≤ 56319) = true := by simp; omega
            have HUn := Lib.hid (unit_any b s q2 p w1 hR2.out h1 hl (by omega))
            rw [hS2.out] at HUn
            have hul := fun d t => unit_lt (f := s.length - p) (l := r) (v := d) (r := t)
            have hE3 : N = (unitR (s.length - p) r).bind fun d t => if 56320 ≤ d ∧ d ≤ 57343 then .ok (Lib.encodeRune ((65536 + 1024 * (n - 55296) + (d - 56320) : Nat) : Int)) t else .bad 54 (s.length - p) := by
              rw [HE2.out]; unfold codeR; rw [if_neg hA, if_pos hB]
            obtain ⟨F, hF⟩ : ∃ F, unitR (s.length - p) r = F := ⟨_, rfl⟩
            rw [hF] at HUn hul hE3
            have HUL := Lib.hid hul
            have HE3 := Lib.hid hE3
            clear hF hul hE3 hA HOne
            go_wp2_with fail
            refine HUn.out.mono ?_
            intro e w2 hU
            have HU2 := Lib.hid hU
            clear hU HUn g1 g2 g3
            rcases F with ⟨d, t⟩ | ⟨c, k⟩
            · obtain ⟨rfl, ⟨q3, k1, k2, k3⟩, k4⟩ := HU2.out
              have hd := HUL.out d t rfl
              have hR3 := Lib.hid k3
              have hS3 := Lib.hid k2
              have HG3 := Lib.hid (HG2.out.trans k4)
              have HBJ3 := Lib.hid (HBJ2.out.rd hR2.out HB.out k4)
              have hw33 : IntKind.i32.wrap (d : Int) = (d : Int) := by rw [IntKind.wrap_i32]; omega
              have HE4 : Hid (N = if 56320 ≤ d ∧ d ≤ 57343 then .ok (Lib.encodeRune ((65536 + 1024 * (n - 55296) + (d - 56320) : Nat) : Int)) t else .bad 54 (s.length - p)) := Lib.hid HE3.out
              clear k2 k3 k4 HUL HE3
              by_cases hD : 56320 ≤ d ∧ d ≤ 57343
              · have g1 : decide ((d : Int) < 56320) = false := by simp; omega
                have g2 : decide ((57343 : Int) < (d : Int)) = false := by simp; omega
                have hE5 := HE4.out
                rw [if_pos hD] at hE5
                obtain ⟨x, hx⟩ : ∃ x : Nat, 65536 + 1024 * (n - 55296) + (d - 56320) = x := ⟨_, rfl⟩
                rw [hx] at hE5
                have hxl : x ≤ 1114111 := by omega
                have HW : Hid (EscD b s N w0 ob l q3 x w2) := Lib.hid ⟨by rw [hS3.out]; exact hE5, k1, hxl, HB.out, hll, hR3.out, HG3.out, HBJ3.out⟩
                have hw1 : IntKind.i32.wrap (((n : Int) - 55296) * 1024) = ((n : Int) - 55296) * 1024 := by rw [IntKind.wrap_i32]; omega
                have HXE : Hid (65536 + ((n : Int) - 55296) * 1024 + ((d : Int) - 56320) = (x : Int)) := Lib.hid (by omega)
                have b1 : (0 : Int) ≤ (n : Int) - 55296 := by omega
                have b2 : ((n : Int) - 55296) * 1024 ≤ 1047552 := by omega
                have b3 : (0 : Int) ≤ ((n : Int) - 55296) * 1024 := by omega
                have b4 : (0 : Int) ≤ (d : Int) - 56320 := by omega
                have b5 : (d : Int) - 56320 ≤ 1023 := by omega
                clear hE5 hx hD hB HBad
                go_wp2_with fail
                rw [HXE.out]
                refine (HW.out.write).mono ?_
                rintro e w2 ⟨⟨x, rfl⟩, hx⟩
                have HX := Lib.hid hx
                clear hx
                go_wp2_with fail
                go_end0
                exact HX.out
              · have HX := Lib.hid (HBad.out (s.length - p) (by rw [HE4.out, if_neg hD]) p (by omega))
                have hcs : d < 56320 ∨ (56320 ≤ d ∧ 57343 < d) := by omega
                clear hD HBad
                rcases hcs with hc | ⟨hc, hc2⟩
                · have g1 : decide ((d : Int) < 56320) = true := by simp; omega
                  go_wp2_with fail
                  refine (fail_any 54 _ _).mono ?_
                  rintro e w2 ⟨⟨bf, rfl, hf⟩, hq2⟩
                  have HF := Lib.hid hf
                  have HQ2 := Lib.hid hq2
                  clear hf hq2
                  go_wp2_with fail
                  exact ⟨rfl, HX.out _ _ _ HG3.out HF.out HQ2.out⟩
                · have g1 : decide ((d : Int) < 56320) = false := by simp; omega
                  have g2 : decide ((57343 : Int) < (d : Int)) = true := by simp; omega
                  go_wp2_with fail
                  refine (fail_any 54 _ _).mono ?_
                  rintro e w2 ⟨⟨bf, rfl, hf⟩, hq2⟩
                  have HF := Lib.hid hf
                  have HQ2 := Lib.hid hq2
                  clear hf hq2
                  go_wp2_with fail
                  exact ⟨rfl, HX.out _ _ _ HG3.out HF.out HQ2.out⟩
            · obtain ⟨⟨bf, rfl, hf⟩, hg⟩ := HU2.out
              have HX : Hid (EscP b s N w0 ob l (.panicked [{ v := .iface 32 (.pointer (some ⟨bf, 0, none⟩)), recovered := false }]) w2) := Lib.hid (by
                rw [HE3.out]
                exact ⟨⟨bf, rfl, hf⟩, HG2.out.trans hg⟩)
              clear hf hg
              go_wp2_with fail
              exact ⟨rfl, HX.out⟩
          · have HW : Hid (EscD b s N w0 ob l q2 n w1) := Lib.hid (HOne.out (by rw [HE2.out]; unfold codeR; rw [if_neg hA, if_neg hB]))
            have hn0 : (0 : Int) ≤ n := by omega
            have hcs : (n < 55296) ∨ 57343 < n := by omega
            clear hA hB HBad HOne
            rcases hcs with hc | hc
            · have g1 : decide ((56320 : Int) ≤ (n : Int)) = false := by simp; omega
              have g2 : decide ((55296 : Int) ≤ (n : Int)) = false := by simp; omega
              go_wp2_with fail
              refine (HW.out.write).mono ?_
              rintro e w2 ⟨⟨x, rfl⟩, hx⟩
              have HX := Lib.hid hx
              clear hx
              go_wp2_with fail
              go_end0
              exact HX.out
            · have g1 : decide ((56320 : Int) ≤ (n : Int)) = true := by simp; omega
              have g2 : decide ((n : Int) ≤ 57343) = false := by simp; omega
              have g3 : decide ((55296 : Int) ≤ (n : Int)) = true := by simp; omega
              have g4 : decide ((n : Int) ≤ 56319) = false := by simp; omega
              go_wp2_with fail
              refine (HW.out.write).mono ?_
              rintro e w2 ⟨⟨x, rfl⟩, hx⟩
              have HX := Lib.hid hx
              clear hx
              go_wp2_with fail
              go_end0
              exact HX.out
      · obtain ⟨⟨bf, rfl, hf⟩, hg⟩ := HU.out
        have HX : Hid (EscP b s N w0 ob l (.panicked [{ v := .iface 32 (.pointer (some ⟨bf, 0, none⟩)), recovered := false }]) w1) := Lib.hid (by
          rw [HE.out]
          exact ⟨⟨bf, rfl, hf⟩, HG.out.trans hg⟩)
        clear hf hg
        go_wp2_with fail
        exact ⟨rfl, HX.out⟩
    · rw [if_neg hu] at hesc
      have g2 : (((v.toNat : Int)) != 117) = true := by
        simp only [bne_iff_ne, ne_eq]; intro e; exact hu (UInt8.toNat_inj.1 (by show v.toNat = 117; omega))
      have hx := esc_ix v
      have hz := esc_le v
      have hi : Lib.indexByte escF ((v.toNat : Int).toNat.toUInt8) = Lib.indexByte escF v := by simp
      generalize Lib.indexByte escF v = z at hx hz hi
      have HIB : Hid (∀ W, Calls Tryz.prog 83 #[.string ⟨#[34, 92, 47, 98, 102, 110, 114, 116]⟩, .int .u8 (v.toNat : Int)] W fun e w' => e = .returned (.int .i64 z) ∧ w' = W) := Lib.hid (fun W => by
        have := Tryz.strings_IndexByte ⟨#[34, 92, 47, 98, 102, 110, 114, 116]⟩ (v.toNat : Int) W
        have hi' : Lib.indexByte (⟨#[34, 92, 47, 98, 102, 110, 114, 116]⟩ : ByteArray).data.toList ((v.toNat : Int).toNat.toUInt8) = z := hi
        rw [hi'] at this
        exact this)
      clear hi hu
      by_cases h0 : z < 0
      · rw [if_pos h0] at hx
        rw [hx] at hesc
        have g3 : decide (z < 0) = true := by simpa using h0
        have HX := Lib.hid (HBad.out (s.length - p) hesc p (by omega))
        clear hx hesc HBad
        go_enter Tryz.func75, Tryz.ntmps75
        go_wp2_with fail
        refine (HIB.out _).mono ?_
        rintro e w1 ⟨rfl, rfl⟩
        go_wp2_with fail
        refine (fail_any 54 _ _).mono ?_
        rintro e w2 ⟨⟨bf, rfl, hf⟩, hq2⟩
        have HF := Lib.hid hf
        have HQ2 := Lib.hid hq2
        clear hf hq2
        go_wp2_with fail
        exact ⟨rfl, HX.out _ _ _ HG.out HF.out HQ2.out⟩
      · rw [if_neg h0] at hx
        rw [hx] at hesc
        have g3 : decide (z < 0) = false := by simpa using h0
        obtain ⟨k, rfl⟩ : ∃ k : Nat, z = (k : Int) := ⟨z.toNat, by omega⟩
        obtain ⟨c, hc⟩ : ∃ c, gB escT ((k : Int)).toNat = c := ⟨_, rfl⟩
        rw [hc] at hesc
        have hk8 : k < 8 := by omega
        have hc2 : gB [34, 92, 47, 8, 12, 10, 13, 9] k = c := hc
        have HE : Hid (N = .ok [c] (s.drop (p + 1 + 1))) := Lib.hid hesc
        have HW : Hid (∀ W, BJ w0.heap.size ob l W → w0.heap.size ≤ W.heap.size → Calls Tryz.prog 84 #[.pointer (some ⟨ob, 0, none⟩), .int .u8 c.toNat] W fun e w' => e = .returned .nilIface ∧ BJ w0.heap.size ob (l ++ [c]) w' ∧ Below w0.heap.size W w') := Lib.hid (fun W h1 h2 => bjByte w0.heap.size ob l c W h1 (by omega) h2)
        have hsz := HG.out.size
        clear hx hesc HBad hc
        go_enter Tryz.func75, Tryz.ntmps75
        go_wp2_with fail
        refine (HIB.out _).mono ?_
        rintro e w1 ⟨rfl, rfl⟩
        go_wp2_with fail
        refine (HW.out _ HBJ.out hsz).mono ?_
        rintro e w2 ⟨rfl, hB2, hb2⟩
        have HR2 := Lib.hid (H.out.below HB.out hb2)
        have HG2 := Lib.hid (HG.out.below hb2)
        have HBJ2 := Lib.hid hB2
        clear c0 c1 hB2 hb2
        have c1 := HR2.out.c1
        have f1 := HR2.out.f 1
        have HX : Hid (EscP b s N w0 ob l (.returned (.tuple #[])) (w2.setCell ⟨b, 1, none⟩ (.int .i64 ((p : Int) + 2)))) := Lib.hid (by
          have e1 : ((p : Int) + 2) = ((p + 1 + 1 : Nat) : Int) := by omega
          have hR3 : RdB (w2.setCell ⟨b, 1, none⟩ (.int .i64 ((p : Int) + 2))) b s (p + 1 + 1) := by rw [e1]; exact HR2.out.set (p + 1 + 1)
          have hG3 : GX [b] w0 (w2.setCell ⟨b, 1, none⟩ (.int .i64 ((p : Int) + 2))) := HG2.out.set (by simp) _ _
          rw [HE.out]
          exact ⟨rfl, ⟨p + 1 + 1, by omega, rfl, hR3⟩, hG3, HBJ2.out.rd HR2.out HB.out ((GX.refl [b] w2).set (by simp) _ _)⟩)
        go_wp2_with fail
        go_end0
        exact HX.out
end Go.Proofs.YtlhhiiemojhjdaaGreatDoor
