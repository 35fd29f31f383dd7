/- Texts of this proof, laid into one: KbG, KbH, KbI, KbJ. -/
import Derived.Test.YtlhhiiemojhjdaaDoorMs03
import Derived.Lib.SlBytesConst
import Derived.Shelf.Strings.BuilderK
import Derived.Shelf.Strings.BuilderRune
set_option linter.unusedVariables false
set_option linter.unusedSimpArgs false
namespace Go.Proofs.YtlhhiiemojhjdaaDoor
open Go Go.RowKit
def NatP (b : Nat) (s : Txt) (a : PR Nat) (w : World) (e : Ending) (w' : World) : Prop :=
  match a with
  | .ok n r => e = .returned (.int .i64 (n : Int)) ∧ (∃ q, q ≤ s.length ∧ s.drop q = r ∧ RdB w' b s q) ∧ GX [b] w w'
  | .bad c n => Gave b s c n w e w'
def UnitSt (b : Nat) (s : Txt) (N : PR Nat) (f i n : Nat) (w W : World) : Prop := ∃ q, q ≤ s.length ∧ RdB W b s q ∧ GX [b] w W ∧ N = unitAt f i n (s.drop q)
theorem want_get : ∀ k, k < 6 → (#[Value.int .u8 92, .int .u8 117, .int .u8 48, .int .u8 48, .int .u8 48, .int .u8 48] : Array Value)[k]? = some (.int .u8 ((gB wantB k).toNat : Int)) := by
  intro k hk
  have : ∀ x : Fin 6, (#[Value.int .u8 92, .int .u8 117, .int .u8 48, .int .u8 48, .int .u8 48, .int .u8 48] : Array Value)[x.val]? = some (.int .u8 ((gB wantB x.val).toNat : Int)) := by
    intro x
    match x with
    | 0 => rfl
    | 1 => rfl
    | 2 => rfl
    | 3 => rfl
    | 4 => rfl
    | 5 => rfl
  exact this ⟨k, hk⟩
set_option maxRecDepth 100000 in
theorem unit_any (b : Nat) (s : Txt) (p fr : Nat) (w : World) (h : RdB w b s p) (hp : p ≤ s.length) (hl : s.length ≤ 1000000000) (hf : fr ≤ s.length) :
    Calls Tryd.prog 120 #[.pointer (some ⟨b, 0, none⟩), .int .i64 (fr : Int)] w (NatP b s (unitR (s.length - fr) (s.drop p)) w) := by
  obtain ⟨N, hN⟩ : ∃ N, unitR (s.length - fr) (s.drop p) = N := ⟨_, rfl⟩
  rw [hN]
  have HB := Lib.hid h.lt
  have HS0 : Hid (∀ W, Q w W → UnitSt b s N (s.length - fr) 0 0 w W) := Lib.hid (fun W hq => ⟨p, hp, h.q hq, GX.q hq, hN.symm⟩)
  clear h hN
  have kc := fun (w : World) (C : Array Value) (n c : Nat) => Lib.run_convert_bytes_const (P := Tryd.prog) w 68 5 C n c Tryd.underlying68 Tryd.underlying5
  go_enter Tryd.func120, Tryd.ntmps120
  go_wp2_with fail
  clear kc
  obtain ⟨W0, hW0⟩ : ∃ W0, w.alloc (.cells #[.int .u8 92, .int .u8 117, .int .u8 48, .int .u8 48, .int .u8 48, .int .u8 48] 5 (6, 7)) = W0 := ⟨_, rfl⟩
  have HW : Hid (∀ k, k < 6 → W0.cell? ⟨w.heap.size, k, none⟩ = some (.int .u8 ((gB wantB k).toNat : Int))) := Lib.hid (fun k hk => by
    rw [← hW0, cell_of_row _ _ _ _ _ _ (heap_alloc_new w _)]; exact want_get k hk)
  have HS : Hid (UnitSt b s N (s.length - fr) 0 0 w W0) := Lib.hid (HS0.out W0 (by rw [← hW0]; exact (Q.refl w).alloc _))
  rw [hW0]
  clear hW0 HS0
  go_loopw [13, 5] (fun i n wx => ∃ k m : Nat, k ≤ 6 ∧ m < 16 ^ (k - 2) ∧ i = .int .i64 k ∧ n = .int .i64 m ∧ Hid (UnitSt b s N (s.length - fr) k m w wx ∧ GX [b] W0 wx)) (fun i _ _ => 6 - (intOf i).toNat)
  case atStart => exact ⟨0, 0, Nat.zero_le _, by decide, rfl, rfl, Lib.hid ⟨HS.out, GX.refl _ _⟩⟩
  case round =>
    obtain ⟨k, m, hk, hm, rfl, rfl, HI⟩ := hrel
    rename World => wa
    by_cases hlt : k < 6
    · have hd : decide ((k : Int) < 6) = true := by simp; omega
      have cx := HI.out.2.cellJ (by simp; have := HB.out; omega) (HW.out k hlt)
      obtain ⟨q, hq, hR, hG, hN⟩ := HI.out.1
      have HR := Lib.hid hR
      have HG1 := Lib.hid hG
      have HN := Lib.hid hN
      have c0 : ∀ mm : QW wa, mm.val.cell? ⟨b, 0, none⟩ = some (.string ⟨s.toArray⟩) := fun mm => mm.cell HR.out.c0
      have c1 : ∀ mm : QW wa, mm.val.cell? ⟨b, 1, none⟩ = some (.int .i64 (q : Int)) := fun mm => mm.cell HR.out.c1
      have HBad : Hid (∀ f', N = .bad 54 f' → ∀ a : Nat, s.length - f' = a → ∀ (w1 w2 : World) bf, Q wa w1 → FaultJ w2 bf 54 (a : Int) → Q w1 w2 → NatP b s N w (.panicked [{ v := .iface 76 (.pointer (some ⟨bf, 0, none⟩)), recovered := false }]) w2) := Lib.hid (fun f' e a ha w1 w2 bf h1 hf h2 => by
        rw [e]; refine ⟨⟨bf, rfl, ?_⟩, HG1.out.trans (GX.q (h1.trans h2))⟩; rw [ha]; exact hf)
      have hqi : (q : Int) ≤ 1000000000 := by omega
      clear hR hG hN
      by_cases hqs : s.length ≤ q
      · have g1 : decide (s.length ≤ q) = true := by simpa using hqs
        have HX := Lib.hid (HBad.out 0 (by rw [HN.out, List.drop_of_length_le hqs, unit_nil _ _ _ hlt]) q (by omega))
        clear hqs HBad
        go_upto_region 5 with (fail)
        refine wp_region_q (by kernel_rfl) (by kernel_rfl) ?_
        (repeat (go_big_quiet_step (fail)))
        refine wpQuiet_nil ?_
        rintro w1 ⟨m1, hm1⟩
        have hq1 : Q wa w1 := by rw [hm1]; exact m1.le
        clear m1 hm1 c0 c1
        have c1 := (HR.out.q hq1).c1
        have HQ := Lib.hid hq1
        clear hq1
        go_wp2_with fail
        refine (fail_any 54 _ _).mono ?_
        rintro e w2 ⟨⟨bf, rfl, hf⟩, hq2⟩
        have HF := Lib.hid hf
        have HQ2 := Lib.hid hq2
        clear hf hq2
        go_wp2_with fail
        exact ⟨rfl, HX.out _ _ _ HQ.out HF.out HQ2.out⟩
      · have g1 : decide (s.length ≤ q) = false := by simpa using hqs
        have hqlt : q < s.length := by omega
        have hdp := gB_drop s q hqlt
        have HT : Hid (RdB (wa.setCell ⟨b, 1, none⟩ (.int .i64 ((q : Int) + 1))) b s (q + 1)) := Lib.hid (by have := HR.out.set (q + 1); simpa using this)
        have g3 : decide (q < s.length) = true := by simpa using hqlt
        obtain ⟨v, hv⟩ : ∃ v, gB s q = v := ⟨_, rfl⟩
        rw [hv] at hdp
        have HV := Lib.hid hv
        have hN2 := HN.out
        rw [hdp] at hN2
        have HN2 := Lib.hid hN2
        have hvl : (v.toNat : Int) < 256 := by have := v.toNat_lt; omega
        have HNext : Hid (∀ w1 m', Q wa w1 → N = unitAt (s.length - fr) (k + 1) m' (s.drop (q + 1)) → UnitSt b s N (s.length - fr) (k + 1) m' w (w1.setCell ⟨b, 1, none⟩ (.int .i64 ((q : Int) + 1))) ∧ GX [b] W0 (w1.setCell ⟨b, 1, none⟩ (.int .i64 ((q : Int) + 1)))) := Lib.hid (fun w1 m' h1 hn =>
          ⟨⟨q + 1, hqlt, by have := (HR.out.q h1).set (q + 1); simpa using this, (HG1.out.reader h1).set (by simp) _ _, hn⟩, (HI.out.2.reader h1).set (by simp) _ _⟩)
        clear hqs hdp hN2 HT
        go_upto_region 5 with (fail)
        refine wp_region_q (by kernel_rfl) (by kernel_rfl) ?_
        (repeat (go_big_quiet_step (fail)))
        refine wpQuiet_nil ?_
        rintro w1 ⟨m1, hm1⟩
        have hq1 : Q wa w1 := by rw [hm1]; exact m1.le
        clear m1 hm1 c0 c1 g1
        have HQ1 := Lib.hid hq1
        have c0 : ∀ mm : QW w1, mm.val.cell? ⟨b, 0, none⟩ = some (.string ⟨s.toArray⟩) := fun mm => mm.cell (HR.out.q HQ1.out).c0
        have c1 : ∀ mm : QW w1, mm.val.cell? ⟨b, 1, none⟩ = some (.int .i64 (q : Int)) := fun mm => mm.cell (HR.out.q HQ1.out).c1
        clear hq1
        go_upto_region 7 with (fail)
        refine wp_region_q (by kernel_rfl) (by kernel_rfl) ?_
        (repeat (go_big_quiet_step (fail)))
        refine wpQuiet_nil ?_
        rintro w2 ⟨m2, hm2⟩
        have hq2 : Q wa w2 := HQ1.out.trans (by rw [hm2]; exact m2.le)
        clear m2 hm2 c0 c1 g3 hqlt
        have HQ2 := Lib.hid hq2
        have c1 := (HR.out.q hq2).c1
        have f1 := (HR.out.q hq2).f 1
        clear hq2 hv
        by_cases hk2 : k < 2
        · have g1 : decide ((k : Int) < 2) = true := by simp; omega
          have hm0 : m = 0 := by rw [show k - 2 = 0 by omega] at hm; simpa using hm
          subst hm0
          have hu := unit_two (s.length - fr) k v (s.drop (q + 1)) hk2
          by_cases hc : v = gB wantB k
          · have g2 : (((v.toNat : Int)) != ((gB wantB k).toNat : Int)) = false := by rw [hc]; simp
            rw [if_pos hc] at hu
            have HX := Lib.hid (HNext.out w2 0 HQ2.out (HN2.out.trans hu))
            clear hu hc HBad
            go_wp2_with fail
            go_roundw
            case rel => exact ⟨k + 1, 0, by omega, Nat.pow_pos (by decide), by go_num, rfl, HX⟩
            case measure => simp [intOf]; omega
          · have g2 : (((v.toNat : Int)) != ((gB wantB k).toNat : Int)) = true := by
              simp only [bne_iff_ne, ne_eq]; intro e; exact hc (UInt8.toNat_inj.1 (by omega))
            rw [if_neg hc] at hu
            have HX := Lib.hid (HBad.out _ (HN2.out.trans hu) fr (by omega))
            clear hu hc HBad
            go_wp2_with fail
            refine (fail_any 54 _ _).mono ?_
            rintro e w3 ⟨⟨bf, rfl, hf⟩, hq2⟩
            have HF := Lib.hid hf
            have HQ3 := Lib.hid hq2
            clear hf hq2
            go_wp2_with fail
            exact ⟨rfl, HX.out _ _ _ HQ2.out HF.out HQ3.out⟩
        · have g1 : decide ((k : Int) < 2) = false := by simp; omega
          have hu := unit_hex (s.length - fr) k m v (s.drop (q + 1)) (by omega) hlt
          have hx := hex_ix v
          have hz := hex_le v
          have hi : Lib.indexByte hexA ((v.toNat : Int).toNat.toUInt8) = Lib.indexByte hexA v := by simp
          generalize Lib.indexByte hexA v = z at hx hz hi
          have HIB : Hid (∀ W, Calls Tryd.prog 118 #[.string ⟨#[48, 49, 50, 51, 52, 53, 54, 55, 56, 57, 97, 98, 99, 100, 101, 102, 65, 66, 67, 68, 69, 70]⟩, .int .u8 (v.toNat : Int)] W fun e w' => e = .returned (.int .i64 z) ∧ w' = W) := Lib.hid (fun W => by
            have := Tryd.strings_IndexByte ⟨#[48, 49, 50, 51, 52, 53, 54, 55, 56, 57, 97, 98, 99, 100, 101, 102, 65, 66, 67, 68, 69, 70]⟩ (v.toNat : Int) W
            have hi' : Lib.indexByte (⟨#[48, 49, 50, 51, 52, 53, 54, 55, 56, 57, 97, 98, 99, 100, 101, 102, 65, 66, 67, 68, 69, 70]⟩ : ByteArray).data.toList ((v.toNat : Int).toNat.toUInt8) = z := hi
            rw [hi'] at this
            exact this)
          clear hi
          have hpow : m < 4096 := Nat.lt_of_lt_of_le hm (Nat.pow_le_pow_right (n := 16) (by decide) (show k - 2 ≤ 3 by omega))
          have hpow2 : ∀ d, d < 16 → 16 * m + d < 16 ^ (k + 1 - 2) := fun d hd => by
            rw [show k + 1 - 2 = (k - 2) + 1 by omega, Nat.pow_succ]; omega
          have HP := Lib.hid hpow2
          clear hpow2 hm
          by_cases h16 : 16 ≤ z
          · rw [if_pos h16] at hx
            rw [hx] at hu
            have g2 : decide ((16 : Int) ≤ z) = true := by simpa using h16
            obtain ⟨d, hdz⟩ : ∃ d : Nat, (z - 6).toNat = d := ⟨_, rfl⟩
            have hd16 : d < 16 := by omega
            rw [hdz] at hu
            have hw0 : z - 6 = (d : Int) := by omega
            have HX := Lib.hid (HNext.out w2 (16 * m + d) HQ2.out (HN2.out.trans hu))
            have ho := or_hex m d hpow hd16
            have HPd := HP.out d hd16
            have hwr : IntKind.i64.wrap ((m : Int) * 16) = (m : Int) * 16 := by rw [IntKind.wrap_i64]; omega
            clear hu hx hdz HBad
            go_wp2_with fail
            refine (HIB.out _).mono ?_
            rintro e w3 ⟨rfl, rfl⟩
            go_wp2_with fail
            go_roundw
            case rel => exact ⟨k + 1, 16 * m + d, by omega, HPd, by go_num, by go_num, HX⟩
            case measure => simp [intOf]; omega
          · rw [if_neg h16] at hx
            have g2 : decide ((16 : Int) ≤ z) = false := by simpa using h16
            by_cases h0 : 0 ≤ z
            · rw [if_pos h0] at hx
              rw [hx] at hu
              have g3 : decide ((0 : Int) ≤ z) = true := by simpa using h0
              obtain ⟨d, hdz⟩ : ∃ d : Nat, z.toNat = d := ⟨_, rfl⟩
              have hd16 : d < 16 := by omega
              rw [hdz] at hu
              obtain rfl : z = (d : Int) := by omega
              have HX := Lib.hid (HNext.out w2 (16 * m + d) HQ2.out (HN2.out.trans hu))
              have ho := or_hex m d hpow hd16
              have HPd := HP.out d hd16
              have hwr : IntKind.i64.wrap ((m : Int) * 16) = (m : Int) * 16 := by rw [IntKind.wrap_i64]; omega
              clear hu hx hdz HBad
              go_wp2_with fail
              refine (HIB.out _).mono ?_
              rintro e w3 ⟨rfl, rfl⟩
              go_wp2_with fail
              go_roundw
              case rel => exact ⟨k + 1, 16 * m + d, by omega, HPd, by go_num, by go_num, HX⟩
              case measure => simp [intOf]; omega
            · rw [if_neg h0] at hx
              rw [hx] at hu
              have g3 : decide ((0 : Int) ≤ z) = false := by simpa using h0
              have HX := Lib.hid (HBad.out _ (HN2.out.trans hu) fr (by omega))
              clear hu hx HBad
              go_wp2_with fail
              refine (HIB.out _).mono ?_
              rintro e w3 ⟨rfl, rfl⟩
              go_wp2_with fail
              refine (fail_any 54 _ _).mono ?_
              rintro e w4 ⟨⟨bf, rfl, hf⟩, hq2⟩
              have HF := Lib.hid hf
              have HQ3 := Lib.hid hq2
              clear hf hq2
              go_wp2_with fail
              exact ⟨rfl, HX.out _ _ _ HQ2.out HF.out HQ3.out⟩
    · have hd : decide ((k : Int) < 6) = false := by simp; omega
      obtain rfl : k = 6 := by omega
      obtain ⟨q, hq, hR, hG, hN⟩ := HI.out.1
      have HX : Hid (NatP b s N w (.returned (.int .i64 (m : Int))) wa) := Lib.hid (by
        rw [hN, unit_end]; exact ⟨rfl, ⟨q, hq, rfl, hR⟩, hG⟩)
      clear hR hG hN hd
      go_wp2_with fail
      go_ret
      exact HX.out
end Go.Proofs.YtlhhiiemojhjdaaDoor
set_option linter.unusedVariables false
set_option linter.unusedSimpArgs false
namespace Go.Proofs.YtlhhiiemojhjdaaDoor
open Go Go.RowKit
theorem infoB7 : Builder.Extra Tryd.prog lays167_ren := {
  sizeBuilder := by kernel_rfl
  liesBuilder := by kernel_rfl
  t5 := Tryd.underlying5
  a5 := Tryd.isAgg5
  z5 := Tryd.sizeOf5
  v5 := Tryd.zeroValue5
  infoByte := by kernel_rfl
  cellsByte := by kernel_rfl
  sizeByte := by kernel_rfl
  neB5 := by decide }
theorem infoB8 : Builder.Extra Tryd.prog lays168_ren := {
  sizeBuilder := by kernel_rfl
  liesBuilder := by kernel_rfl
  t5 := Tryd.underlying5
  a5 := Tryd.isAgg5
  z5 := Tryd.sizeOf5
  v5 := Tryd.zeroValue5
  infoByte := by kernel_rfl
  cellsByte := by kernel_rfl
  sizeByte := by kernel_rfl
  neB5 := by decide }
def BJ (B ob : Nat) (l : Txt) (w : World) : Prop := Lib.IsBuilderF 70 5 B ob (Lib.byteCells l) w
theorem BJ.new (B : Nat) (w : World) (hq : B ≤ w.heap.size) : BJ B w.heap.size [] (w.alloc (.cells #[.pointer none, .slice none 0 0] 70)) :=
  Lib.IsBuilderF.of (.inl ⟨hq, .slice none 0 0, (MapKept.heap_alloc w _).1, ⟨by simp [Lib.byteCells], .inl ⟨rfl, rfl⟩⟩, by simp [Value.ownBlock]⟩)
theorem BJ.lt {B b : Nat} {l : Txt} {w : World} (h : BJ B b l w) : B ≤ b ∧ b < w.heap.size := by
  rcases h with h | h <;> exact ⟨h.1, h.lt⟩
theorem bjByte (B ob : Nat) (l : Txt) (c : UInt8) (w : World) (h : BJ B ob l w) (hl : l.length + 1 ≤ 140737488355328) (hB : B ≤ w.heap.size) :
    Calls Tryd.prog 119 #[.pointer (some ⟨ob, 0, none⟩), .int .u8 c.toNat] w fun e w' => e = .returned .nilIface ∧ BJ B ob (l ++ [c]) w' ∧ Below B w w' :=
  (Any.Builder_WriteByte_k lays167 infoB7 B ob (Lib.byteCells l) c.toNat w h (by rw [byteCells_length]; exact hl) hB).mono fun e w' ⟨h1, h2, h3, _⟩ =>
    ⟨h1, .inr (by rw [byteCells_append]; exact h2), h3⟩
theorem bjRune (B ob : Nat) (l : Txt) (r : Int) (hr0 : -2147483648 ≤ r) (hr1 : r ≤ 2147483647) (w : World) (h : BJ B ob l w) (hl : l.length + 4 ≤ 140737488355328) (hB : B ≤ w.heap.size) :
    Calls Tryd.prog 106 #[.pointer (some ⟨ob, 0, none⟩), .int .i32 r] w fun e w' => e = .returned (.tuple #[.int .i64 (Lib.encodeRune r).length, .nilIface]) ∧ BJ B ob (l ++ Lib.encodeRune r) w' ∧ Below B w w' :=
  (Any.Builder_WriteRune_k lays168 infoB8 B ob (Lib.byteCells l) r hr0 hr1 w h (by rw [byteCells_length]; exact hl) hB).mono fun e w' ⟨h1, h2, h3, _⟩ =>
    ⟨by rw [h1, Lib.runeCells_length], .inr (by rw [byteCells_append, Lib.byteCells_encodeRune]; exact h2), h3⟩
theorem bjString (B ob : Nat) (l : Txt) (w : World) (h : BJ B ob l w) (hB : B ≤ w.heap.size) :
    Calls Tryd.prog 43 #[.pointer (some ⟨ob, 0, none⟩)] w fun e w' => e = .returned (.string ⟨l.toArray⟩) ∧ Below B w w' :=
  (Tryd.Builder_String_any_k B ob l w h hB).mono fun e w' ⟨h1, _, h3, _⟩ => ⟨h1, h3⟩
theorem BJ.grown {B b : Nat} {l : Txt} {w w' : World} {row : Option Nat} (h : BJ B b l w) (hg : w.grownBy w' row) (hr : ∀ r o, row = some r → w.heap[r]? = some o → (∀ c fz, o ≠ .cells c 5 fz) ∧ r ≠ b) : BJ B b l w' := by
  have go : ∀ p, Lib.BuilderAtF 70 5 B b p (Lib.byteCells l) w → Lib.BuilderAtF 70 5 B b p (Lib.byteCells l) w' := by
    rintro p ⟨h1, v, h2, h3, h4⟩
    have hlt := (Array.getElem?_eq_some_iff.1 h2).1
    refine ⟨h1, v, (hg.block b hlt (fun e => (hr b _ e.symm h2).2 rfl)).trans h2, ?_, h4⟩
    refine h3.kept hg ?_
    rcases hv : v.ownBlock with _ | k
    · exact .inl rfl
    · obtain ⟨c, fz, hc⟩ := Lib.ownsRowF_kind h3 k hv
      exact .inr (fun e => (hr k _ e.symm hc).1 c fz rfl)
  rcases h with h | h
  · exact .inl (go _ h)
  · exact .inr (go _ h)
theorem BJ.q {B b : Nat} {l : Txt} {w w' : World} (h : BJ B b l w) (hq : Q w w') : BJ B b l w' :=
  h.grown (row := none) ⟨hq.os, hq.tape, hq.output, hq.size, fun k hk _ => Below.block hq k hk⟩ (fun _ _ e => by cases e)
theorem BJ.rd {B ob b p : Nat} {l s : Txt} {w w' : World} (h : BJ B ob l w) (hR : RdB w b s p) (hb : b < B) (hg : GX [b] w w') : BJ B ob l w' := by
  refine h.grown (row := some b) ⟨hg.os, hg.tape, hg.output, hg.size, fun k hk hn => hg.block k hk (by simpa using fun e : k = b => hn (by rw [e]))⟩ ?_
  rintro r o e ho
  injection e with e
  subst e
  have h1 := h.lt.1
  refine ⟨fun c fz e2 => ?_, by omega⟩
  unfold RdB at hR
  rw [hR] at ho
  rw [← Option.some.inj ho] at e2
  injection e2 with _ e3 _
  exact absurd e3 (by decide)
theorem GX.below {S : List Nat} {a b c : World} (h : GX S a b) (k : Below a.heap.size b c) : GX S a c :=
  ⟨k.os.trans h.os, k.tape.trans h.tape, k.output.trans h.output, Nat.le_trans h.size k.size, fun i hi hn => (k.block i hi).trans (h.block i hi hn)⟩
theorem RdB.below {B b p : Nat} {s : Txt} {w w' : World} (h : RdB w b s p) (hb : b < B) (k : Below B w w') : RdB w' b s p := (k.block b hb).trans h
end Go.Proofs.YtlhhiiemojhjdaaDoor
set_option linter.unusedVariables false
set_option linter.unusedSimpArgs false
namespace Go.Proofs.YtlhhiiemojhjdaaDoor
open Go Go.RowKit
def EscP (b : Nat) (s : Txt) (a : PR Txt) (w0 : World) (ob : Nat) (l : Txt) (e : Ending) (w' : World) : Prop :=
  match a with
  | .ok t r => e = .returned (.tuple #[]) ∧ (∃ q, q ≤ s.length ∧ s.drop q = r ∧ RdB w' b s q) ∧ GX [b] w0 w' ∧ BJ w0.heap.size ob (l ++ t) w'
  | .bad c n => Gave b s c n w0 e w'
theorem drop2 {s : Txt} {p : Nat} (h : p + 1 < s.length) : s.drop p = gB s p :: gB s (p + 1) :: s.drop (p + 1 + 1) := by
  rw [gB_drop s p (by omega), gB_drop s (p + 1) h]
def EscD (b : Nat) (s : Txt) (N : PR Txt) (w0 : World) (ob : Nat) (l : Txt) (q n : Nat) (w : World) : Prop :=
  N = .ok (Lib.encodeRune (n : Int)) (s.drop q) ∧ q ≤ s.length ∧ n ≤ 1114111 ∧ b < w0.heap.size ∧ l.length ≤ 10000000000 ∧ RdB w b s q ∧ GX [b] w0 w ∧ BJ w0.heap.size ob l w
theorem EscD.write {b : Nat} {s : Txt} {N : PR Txt} {w0 : World} {ob : Nat} {l : Txt} {q n : Nat} {w : World} (h : EscD b s N w0 ob l q n w) :
    Calls Tryd.prog 106 #[.pointer (some ⟨ob, 0, none⟩), .int .i32 (n : Int)] w fun e w' => (∃ x, e = .returned (.tuple #[.int .i64 x, .nilIface])) ∧ EscP b s N w0 ob l (.returned (.tuple #[])) w' := by
  obtain ⟨rfl, h1, h2, h3, h4, h5, h6, h7⟩ := h
  refine (bjRune w0.heap.size ob l (n : Int) (by omega) (by omega) w h7 (by omega) h6.size).mono ?_
  rintro e w' ⟨rfl, g1, g2⟩
  exact ⟨⟨_, rfl⟩, rfl, ⟨q, h1, rfl, h5.below h3 g2⟩, h6.below g2, g1⟩
theorem unit_lt {f : Nat} {l : Txt} {v : Nat} {r : Txt} (h : unitR f l = .ok v r) : v < 65536 := by
  unfold unitR at h
  cases h1 : mustR f 92 l with
  | bad c n => rw [h1] at h; cases h
  | ok x t =>
    rw [h1] at h
    have h : (mustR f 117 t).bind (fun _ u => fourR f 4 0 u) = .ok v r := h
    cases h2 : mustR f 117 t with
    | bad c n => rw [h2] at h; cases h
    | ok y u =>
      rw [h2] at h
      have := four_lt f 4 0 u v r h
      omega
set_option maxRecDepth 100000 in
theorem escape_any (b : Nat) (s : Txt) (p : Nat) (w0 w : World) (ob : Nat) (l : Txt) (h : RdB w b s p) (hg : GX [b] w0 w) (hb : b < w0.heap.size) (hB : BJ w0.heap.size ob l w) (hp : p < s.length) (h92 : gB s p = 92) (hl : s.length ≤ 1000000000) (hll : l.length ≤ 10000000000) :
    Calls Tryd.prog 105 #[.pointer (some ⟨b, 0, none⟩), .pointer (some ⟨ob, 0, none⟩)] w (EscP b s (escR (s.drop p)) w0 ob l) := by
  obtain ⟨N, hN⟩ : ∃ N, escR (s.drop p) = N := ⟨_, rfl⟩
  rw [hN]
  have H := Lib.hid h
  have HG := Lib.hid hg
  have HBJ := Lib.hid hB
  have HN := Lib.hid hN
  have HB := Lib.hid hb
  have c0 := h.c0
  have c1 := h.c1
  have HBad : Hid (∀ f', N = .bad 54 f' → ∀ a : Nat, s.length - f' = a → ∀ (w1 w2 : World) bf, GX [b] w0 w1 → FaultJ w2 bf 54 (a : Int) → Q w1 w2 → EscP b s N w0 ob l (.panicked [{ v := .iface 76 (.pointer (some ⟨bf, 0, none⟩)), recovered := false }]) w2) := Lib.hid (fun f' e a ha w1 w2 bf h1 hf h2 => by
    rw [e]; refine ⟨⟨bf, rfl, ?_⟩, h1.reader h2⟩; rw [ha]; exact hf)
  clear h hg hB hN hb
  by_cases hend : p + 1 = s.length
  · have g1 : (((p : Int) + 1) == (s.length : Int)) = true := by simp; omega
    have HX := Lib.hid (HBad.out 0 (by rw [← HN.out, gB_drop s p hp, List.drop_of_length_le (by omega : s.length ≤ p + 1)]; rfl) s.length (by omega))
    clear hend HBad h92
    go_enter Tryd.func105, Tryd.ntmps105
    go_wp2_with fail
    refine (fail_any 54 _ _).mono ?_
    rintro e w2 ⟨⟨bf, rfl, hf⟩, hq2⟩
    have HF := Lib.hid hf
    have HQ2 := Lib.hid hq2
    clear hf hq2
    go_wp2_with fail
    exact ⟨rfl, HX.out _ _ _ HG.out HF.out HQ2.out⟩
  · have g1 : (((p : Int) + 1) == (s.length : Int)) = false := by simp; omega
    have hlt : p + 1 < s.length := by omega
    have hdp := drop2 hlt
    obtain ⟨v, hv⟩ : ∃ v, gB s (p + 1) = v := ⟨_, rfl⟩
    rw [h92, hv] at hdp
    have HD := Lib.hid hdp
    have hN := HN.out
    rw [hdp] at hN
    have hvl : (v.toNat : Int) < 256 := by have := v.toNat_lt; omega
    have hlen : (92 :: v :: s.drop (p + 1 + 1)).length = s.length - p := by rw [← hdp, List.length_drop]
    have hesc : N = if v = 117 then (fourR (s.length - p) 4 0 (s.drop (p + 1 + 1))).bind fun c u => codeR (s.length - p) c u
      else match simpleE v with
        | none => .bad 54 (s.length - p)
        | some c => .ok [c] (s.drop (p + 1 + 1)) := by
      rw [← hN, escR, hlen]
      by_cases h : v = 117
      · rw [if_pos h, if_pos h]
      · rw [if_neg h, if_neg h]
        cases simpleE v <;> rfl
    clear hdp hN hlen h92 hend HN
    by_cases hu : v = 117
    · rw [if_pos hu] at hesc
      have HE := Lib.hid hesc
      have g2 : (((v.toNat : Int)) != 117) = false := by rw [hu]; rfl
      have HU0 : Hid (unitR (s.length - p) (s.drop p) = fourR (s.length - p) 4 0 (s.drop (p + 1 + 1))) := Lib.hid (by rw [HD.out, hu]; rfl)
      have HUn := Lib.hid (unit_any b s p p w H.out (by omega) hl (by omega))
      rw [HU0.out] at HUn
      have hfl := four_lt (s.length - p) 4 0 (s.drop (p + 1 + 1))
      obtain ⟨F, hF⟩ : ∃ F, fourR (s.length - p) 4 0 (s.drop (p + 1 + 1)) = F := ⟨_, rfl⟩
      rw [hF] at HE HUn hfl
      have HFL := Lib.hid hfl
      clear hesc hu hF hfl HU0
      go_enter Tryd.func105, Tryd.ntmps105
      go_wp2_with fail
      refine HUn.out.mono ?_
      intro e w1 hU
      have HU := Lib.hid hU
      clear hU c0 c1 HUn g1 g2
      rcases F with ⟨n, r⟩ | ⟨c, k⟩
      · obtain ⟨rfl, ⟨q2, h1, h2, h3⟩, h4⟩ := HU.out
        have hn : n < 65536 := by have := HFL.out n r rfl; omega
        have hR2 := Lib.hid h3
        have hS2 := Lib.hid h2
        have HG2 := Lib.hid (HG.out.trans h4)
        have HBJ2 := Lib.hid (HBJ.out.rd H.out HB.out h4)
        have HE2 : Hid (N = codeR (s.length - p) n r) := Lib.hid HE.out
        have hw32 : IntKind.i32.wrap (n : Int) = (n : Int) := by rw [IntKind.wrap_i32]; omega
        have hsz := Nat.le_trans HG.out.size h4.size
        clear h2 h3 h4 HE HFL
        have HOne : Hid (N = .ok (Lib.encodeRune (n : Int)) r → EscD b s N w0 ob l q2 n w1) := Lib.hid (fun e => ⟨by rw [hS2.out]; exact e, h1, by omega, HB.out, hll, hR2.out, HG2.out, HBJ2.out⟩)
        by_cases hA : 56320 ≤ n ∧ n ≤ 57343
        · have g1 : decide ((56320 : Int) ≤ (n : Int)) = true := by simp; omega
          have g2 : decide ((n : Int) ≤ 57343) = true := by simp; omega
          have HX := Lib.hid (HBad.out (s.length - p) (by rw [HE2.out]; unfold codeR; rw [if_pos hA]) p (by omega))
          clear hA HBad HOne
          go_wp2_with fail
          refine (fail_any 54 _ _).mono ?_
          rintro e w2 ⟨⟨bf, rfl, hf⟩, hq2⟩
          have HF := Lib.hid hf
          have HQ2 := Lib.hid hq2
          clear hf hq2
          go_wp2_with fail
          exact ⟨rfl, HX.out _ _ _ HG2.out HF.out HQ2.out⟩
        · by_cases hB : 55296 ≤ n ∧ n ≤ 56319
          · have g1 : decide ((56320 : Int) ≤ (n : Int)) = false := by simp; omega
            have g2 : decide ((55296 : Int) ≤ (n : Int)) = true := by simp; omega
            have g3 : decide ((n : Int) ≤ 56319) = true := by simp; omega
            have HUn := Lib.hid (unit_any b s q2 p w1 hR2.out h1 hl (by omega))
            rw [hS2.out] at HUn
            have hul := fun d t => unit_lt (f := s.length - p) (l := r) (v := d) (r := t)
            have hE3 : N = (unitR (s.length - p) r).bind fun d t => if 56320 ≤ d ∧ d ≤ 57343 then .ok (Lib.encodeRune ((65536 + 1024 * (n - 55296) + (d - 56320) : Nat) : Int)) t else .bad 54 (s.length - p) := by
              rw [HE2.out]; unfold codeR; rw [if_neg hA, if_pos hB]
            obtain ⟨F, hF⟩ : ∃ F, unitR (s.length - p) r = F := ⟨_, rfl⟩
            rw [hF] at HUn hul hE3
            have HUL := Lib.hid hul
            have HE3 := Lib.hid hE3
            clear hF hul hE3 hA HOne
            go_wp2_with fail
            refine HUn.out.mono ?_
            intro e w2 hU
            have HU2 := Lib.hid hU
            clear hU HUn g1 g2 g3
            rcases F with ⟨d, t⟩ | ⟨c, k⟩
            · obtain ⟨rfl, ⟨q3, k1, k2, k3⟩, k4⟩ := HU2.out
              have hd := HUL.out d t rfl
              have hR3 := Lib.hid k3
              have hS3 := Lib.hid k2
              have HG3 := Lib.hid (HG2.out.trans k4)
              have HBJ3 := Lib.hid (HBJ2.out.rd hR2.out HB.out k4)
              have hw33 : IntKind.i32.wrap (d : Int) = (d : Int) := by rw [IntKind.wrap_i32]; omega
              have HE4 : Hid (N = if 56320 ≤ d ∧ d ≤ 57343 then .ok (Lib.encodeRune ((65536 + 1024 * (n - 55296) + (d - 56320) : Nat) : Int)) t else .bad 54 (s.length - p)) := Lib.hid HE3.out
              clear k2 k3 k4 HUL HE3
              by_cases hD : 56320 ≤ d ∧ d ≤ 57343
              · have g1 : decide ((d : Int) < 56320) = false := by simp; omega
                have g2 : decide ((57343 : Int) < (d : Int)) = false := by simp; omega
                have hE5 := HE4.out
                rw [if_pos hD] at hE5
                obtain ⟨x, hx⟩ : ∃ x : Nat, 65536 + 1024 * (n - 55296) + (d - 56320) = x := ⟨_, rfl⟩
                rw [hx] at hE5
                have hxl : x ≤ 1114111 := by omega
                have HW : Hid (EscD b s N w0 ob l q3 x w2) := Lib.hid ⟨by rw [hS3.out]; exact hE5, k1, hxl, HB.out, hll, hR3.out, HG3.out, HBJ3.out⟩
                have hw1 : IntKind.i32.wrap (((n : Int) - 55296) * 1024) = ((n : Int) - 55296) * 1024 := by rw [IntKind.wrap_i32]; omega
                have HXE : Hid (65536 + ((n : Int) - 55296) * 1024 + ((d : Int) - 56320) = (x : Int)) := Lib.hid (by omega)
                have b1 : (0 : Int) ≤ (n : Int) - 55296 := by omega
                have b2 : ((n : Int) - 55296) * 1024 ≤ 1047552 := by omega
                have b3 : (0 : Int) ≤ ((n : Int) - 55296) * 1024 := by omega
                have b4 : (0 : Int) ≤ (d : Int) - 56320 := by omega
                have b5 : (d : Int) - 56320 ≤ 1023 := by omega
                clear hE5 hx hD hB HBad
                go_wp2_with fail
                rw [HXE.out]
                refine (HW.out.write).mono ?_
                rintro e w2 ⟨⟨x, rfl⟩, hx⟩
                have HX := Lib.hid hx
                clear hx
                go_wp2_with fail
                go_end0
                exact HX.out
              · have HX := Lib.hid (HBad.out (s.length - p) (by rw [HE4.out, if_neg hD]) p (by omega))
                have hcs : d < 56320 ∨ (56320 ≤ d ∧ 57343 < d) := by omega
                clear hD HBad
                rcases hcs with hc | ⟨hc, hc2⟩
                · have g1 : decide ((d : Int) < 56320) = true := by simp; omega
                  go_wp2_with fail
                  refine (fail_any 54 _ _).mono ?_
                  rintro e w2 ⟨⟨bf, rfl, hf⟩, hq2⟩
                  have HF := Lib.hid hf
                  have HQ2 := Lib.hid hq2
                  clear hf hq2
                  go_wp2_with fail
                  exact ⟨rfl, HX.out _ _ _ HG3.out HF.out HQ2.out⟩
                · have g1 : decide ((d : Int) < 56320) = false := by simp; omega
                  have g2 : decide ((57343 : Int) < (d : Int)) = true := by simp; omega
                  go_wp2_with fail
                  refine (fail_any 54 _ _).mono ?_
                  rintro e w2 ⟨⟨bf, rfl, hf⟩, hq2⟩
                  have HF := Lib.hid hf
                  have HQ2 := Lib.hid hq2
                  clear hf hq2
                  go_wp2_with fail
                  exact ⟨rfl, HX.out _ _ _ HG3.out HF.out HQ2.out⟩
            · obtain ⟨⟨bf, rfl, hf⟩, hg⟩ := HU2.out
              have HX : Hid (EscP b s N w0 ob l (.panicked [{ v := .iface 76 (.pointer (some ⟨bf, 0, none⟩)), recovered := false }]) w2) := Lib.hid (by
                rw [HE3.out]
                exact ⟨⟨bf, rfl, hf⟩, HG2.out.trans hg⟩)
              clear hf hg
              go_wp2_with fail
              exact ⟨rfl, HX.out⟩
          · have HW : Hid (EscD b s N w0 ob l q2 n w1) := Lib.hid (HOne.out (by rw [HE2.out]; unfold codeR; rw [if_neg hA, if_neg hB]))
            have hn0 : (0 : Int) ≤ n := by omega
            have hcs : (n < 55296) ∨ 57343 < n := by omega
            clear hA hB HBad HOne
            rcases hcs with hc | hc
            · have g1 : decide ((56320 : Int) ≤ (n : Int)) = false := by simp; omega
              have g2 : decide ((55296 : Int) ≤ (n : Int)) = false := by simp; omega
              go_wp2_with fail
              refine (HW.out.write).mono ?_
              rintro e w2 ⟨⟨x, rfl⟩, hx⟩
              have HX := Lib.hid hx
              clear hx
              go_wp2_with fail
              go_end0
              exact HX.out
            · have g1 : decide ((56320 : Int) ≤ (n : Int)) = true := by simp; omega
              have g2 : decide ((n : Int) ≤ 57343) = false := by simp; omega
              have g3 : decide ((55296 : Int) ≤ (n : Int)) = true := by simp; omega
              have g4 : decide ((n : Int) ≤ 56319) = false := by simp; omega
              go_wp2_with fail
              refine (HW.out.write).mono ?_
              rintro e w2 ⟨⟨x, rfl⟩, hx⟩
              have HX := Lib.hid hx
              clear hx
              go_wp2_with fail
              go_end0
              exact HX.out
      · obtain ⟨⟨bf, rfl, hf⟩, hg⟩ := HU.out
        have HX : Hid (EscP b s N w0 ob l (.panicked [{ v := .iface 76 (.pointer (some ⟨bf, 0, none⟩)), recovered := false }]) w1) := Lib.hid (by
          rw [HE.out]
          exact ⟨⟨bf, rfl, hf⟩, HG.out.trans hg⟩)
        clear hf hg
        go_wp2_with fail
        exact ⟨rfl, HX.out⟩
    · rw [if_neg hu] at hesc
      have g2 : (((v.toNat : Int)) != 117) = true := by
        simp only [bne_iff_ne, ne_eq]; intro e; exact hu (UInt8.toNat_inj.1 (by show v.toNat = 117; omega))
      have hx := esc_ix v
      have hz := esc_le v
      have hi : Lib.indexByte escF ((v.toNat : Int).toNat.toUInt8) = Lib.indexByte escF v := by simp
      generalize Lib.indexByte escF v = z at hx hz hi
      have HIB : Hid (∀ W, Calls Tryd.prog 118 #[.string ⟨#[34, 92, 47, 98, 102, 110, 114, 116]⟩, .int .u8 (v.toNat : Int)] W fun e w' => e = .returned (.int .i64 z) ∧ w' = W) := Lib.hid (fun W => by
        have := Tryd.strings_IndexByte ⟨#[34, 92, 47, 98, 102, 110, 114, 116]⟩ (v.toNat : Int) W
        have hi' : Lib.indexByte (⟨#[34, 92, 47, 98, 102, 110, 114, 116]⟩ : ByteArray).data.toList ((v.toNat : Int).toNat.toUInt8) = z := hi
        rw [hi'] at this
        exact this)
      clear hi hu
      by_cases h0 : z < 0
      · rw [if_pos h0] at hx
        rw [hx] at hesc
        have g3 : decide (z < 0) = true := by simpa using h0
        have HX := Lib.hid (HBad.out (s.length - p) hesc p (by omega))
        clear hx hesc HBad
        go_enter Tryd.func105, Tryd.ntmps105
        go_wp2_with fail
        refine (HIB.out _).mono ?_
        rintro e w1 ⟨rfl, rfl⟩
        go_wp2_with fail
        refine (fail_any 54 _ _).mono ?_
        rintro e w2 ⟨⟨bf, rfl, hf⟩, hq2⟩
        have HF := Lib.hid hf
        have HQ2 := Lib.hid hq2
        clear hf hq2
        go_wp2_with fail
        exact ⟨rfl, HX.out _ _ _ HG.out HF.out HQ2.out⟩
      · rw [if_neg h0] at hx
        rw [hx] at hesc
        have g3 : decide (z < 0) = false := by simpa using h0
        obtain ⟨k, rfl⟩ : ∃ k : Nat, z = (k : Int) := ⟨z.toNat, by omega⟩
        obtain ⟨c, hc⟩ : ∃ c, gB escT ((k : Int)).toNat = c := ⟨_, rfl⟩
        rw [hc] at hesc
        have hk8 : k < 8 := by omega
        have hc2 : gB [34, 92, 47, 8, 12, 10, 13, 9] k = c := hc
        have HE : Hid (N = .ok [c] (s.drop (p + 1 + 1))) := Lib.hid hesc
        have HW : Hid (∀ W, BJ w0.heap.size ob l W → w0.heap.size ≤ W.heap.size → Calls Tryd.prog 119 #[.pointer (some ⟨ob, 0, none⟩), .int .u8 c.toNat] W fun e w' => e = .returned .nilIface ∧ BJ w0.heap.size ob (l ++ [c]) w' ∧ Below w0.heap.size W w') := Lib.hid (fun W h1 h2 => bjByte w0.heap.size ob l c W h1 (by omega) h2)
        have hsz := HG.out.size
        clear hx hesc HBad hc
        go_enter Tryd.func105, Tryd.ntmps105
        go_wp2_with fail
        refine (HIB.out _).mono ?_
        rintro e w1 ⟨rfl, rfl⟩
        go_wp2_with fail
        refine (HW.out _ HBJ.out hsz).mono ?_
        rintro e w2 ⟨rfl, hB2, hb2⟩
        have HR2 := Lib.hid (H.out.below HB.out hb2)
        have HG2 := Lib.hid (HG.out.below hb2)
        have HBJ2 := Lib.hid hB2
        clear c0 c1 hB2 hb2
        have c1 := HR2.out.c1
        have f1 := HR2.out.f 1
        have HX : Hid (EscP b s N w0 ob l (.returned (.tuple #[])) (w2.setCell ⟨b, 1, none⟩ (.int .i64 ((p : Int) + 2)))) := Lib.hid (by
          have e1 : ((p : Int) + 2) = ((p + 1 + 1 : Nat) : Int) := by omega
          have hR3 : RdB (w2.setCell ⟨b, 1, none⟩ (.int .i64 ((p : Int) + 2))) b s (p + 1 + 1) := by rw [e1]; exact HR2.out.set (p + 1 + 1)
          have hG3 : GX [b] w0 (w2.setCell ⟨b, 1, none⟩ (.int .i64 ((p : Int) + 2))) := HG2.out.set (by simp) _ _
          rw [HE.out]
          exact ⟨rfl, ⟨p + 1 + 1, by omega, rfl, hR3⟩, hG3, HBJ2.out.rd HR2.out HB.out ((GX.refl [b] w2).set (by simp) _ _)⟩)
        go_wp2_with fail
        go_end0
        exact HX.out
end Go.Proofs.YtlhhiiemojhjdaaDoor
set_option linter.unusedVariables false
set_option linter.unusedSimpArgs false
namespace Go.Proofs.YtlhhiiemojhjdaaDoor
open Go Go.RowKit
structure RB (wB : World) (b : Nat) (w : World) : Prop where
  ut : Lib.Utf8Tabs 0 1 wB
  q : Q wB w
  lt : wB.heap.size ≤ b
theorem RB.gx {wB : World} {b : Nat} {w w' : World} (h : RB wB b w) (hg : GX [b] w w') : RB wB b w' :=
  ⟨h.ut, hg.toQ h.q (by intro k hk; simp at hk; subst hk; exact h.lt), h.lt⟩
theorem RB.u {wB : World} {b : Nat} {w : World} (h : RB wB b w) : Lib.Utf8Tabs 0 1 w := Utf8Tabs_below h.ut h.q
def TextP (b : Nat) (s : Txt) (a : PR Txt) (w0 : World) (e : Ending) (w' : World) : Prop :=
  match a with
  | .ok t r => e = .returned (.string ⟨t.toArray⟩) ∧ (∃ q, q ≤ s.length ∧ s.drop q = r ∧ RdB w' b s q) ∧ GX [b] w0 w'
  | .bad c n => Gave b s c n w0 e w'
def TxtSt (b : Nat) (s : Txt) (N : PR Txt) (ob gk : Nat) (w0 W : World) : Prop :=
  ∃ q acc, q ≤ s.length ∧ RdB W b s q ∧ GX [b] w0 W ∧ BJ w0.heap.size ob acc W ∧ acc.length ≤ 4 * q ∧ N = txtR gk (s.drop q) acc ∧ s.length - q < gk
theorem decode_any (l : Txt) (h0 : l ≠ []) (wB : World) (b : Nat) (w : World) (hB : RB wB b w) :
    Calls Tryd.prog 104 #[.string ⟨l.toArray⟩] w fun e w' => e = .returned (.tuple #[.int .i32 ((Lib.decodeL l).1 : Nat), .int .i64 ((Lib.decodeL l).2 : Nat)]) ∧ Q w w' := by
  have h := Tryd.utf8_DecodeRuneInString ⟨l.toArray⟩ w hB.u
  have e : Lib.decodeGo ⟨l.toArray⟩ = Lib.decodeL l := dec_go l h0
  rw [e] at h
  exact h
theorem esc_len {l : Txt} {c : Txt} {r : Txt} (h : escR l = .ok c r) : c.length ≤ 4 ∧ r.length + 2 ≤ l.length := by
  match l, h with
  | [], h => cases h
  | [a], h => cases h
  | a :: b :: t, h =>
    rw [escR] at h
    have four_len : ∀ (f k n : Nat) (l : Txt) (v : Nat) (r : Txt), fourR f k n l = .ok v r → r.length ≤ l.length := fun f k n l v r e => by
      have := fourR_good (m := l ++ List.replicate f 0) (f := f) (by simp) k n l
      induction k generalizing n l with
      | zero => rw [fourR] at e; injection e with _ e; rw [e]; omega
      | succ k ih =>
        cases l with
        | nil => rw [fourR] at e; cases e
        | cons c t =>
          rw [fourR] at e
          cases hx : hexJ c with
          | none => rw [hx] at e; cases e
          | some d =>
            rw [hx] at e
            have := ih (16 * n + d) t e (fun hs => fourR_good (by simp) k _ t hs)
            simp only [List.length_cons]; omega
    have unit_len : ∀ (f : Nat) (l : Txt) (v : Nat) (r : Txt), unitR f l = .ok v r → r.length ≤ l.length := fun f l v r e => by
      unfold unitR at e
      match l, e with
      | [], e => cases e
      | [x], e =>
        rw [mustR] at e
        split at e
        · cases e
        · cases e
      | x :: y :: u, e =>
        rw [mustR] at e
        split at e
        · have e : (mustR f 117 (y :: u)).bind (fun _ u => fourR f 4 0 u) = .ok v r := e
          rw [mustR] at e
          split at e
          · have := four_len f 4 0 u v r e
            simp only [List.length_cons]; omega
          · cases e
        · cases e
    split at h
    · cases hF : fourR (a :: b :: t).length 4 0 t with
      | bad c n => rw [hF] at h; cases h
      | ok n u =>
        rw [hF] at h
        have h : codeR (a :: b :: t).length n u = .ok c r := h
        have h1 := four_len _ _ _ _ _ _ hF
        unfold codeR at h
        split at h
        · cases h
        · split at h
          · cases hU : unitR (a :: b :: t).length u with
            | bad c n => rw [hU] at h; cases h
            | ok d v =>
              rw [hU] at h
              have h2 := unit_len _ _ _ _ hU
              have h : (if 56320 ≤ d ∧ d ≤ 57343 then PR.ok (Lib.encodeRune ((65536 + 1024 * (n - 55296) + (d - 56320) : Nat) : Int)) v else PR.bad 54 (a :: b :: t).length) = .ok c r := h
              split at h
              · injection h with h3 h4
                rw [← h3, ← h4]
                exact ⟨(enc_len _).2, by simp only [List.length_cons]; omega⟩
              · cases h
          · injection h with h3 h4
            rw [← h3, ← h4]
            exact ⟨(enc_len _).2, by simp only [List.length_cons]; omega⟩
    · cases hS : simpleE b with
      | none => rw [hS] at h; cases h
      | some d =>
        rw [hS] at h
        injection h with h3 h4
        rw [← h3, ← h4]
        simp
set_option maxRecDepth 100000 in
theorem text_any (b : Nat) (s : Txt) (p : Nat) (wB w : World) (h : RdB w b s p) (hB : RB wB b w) (hp : p ≤ s.length) (hl : s.length ≤ 1000000000) :
    Calls Tryd.prog 75 #[.pointer (some ⟨b, 0, none⟩)] w (TextP b s (textR (s.drop p)) w) := by
  obtain ⟨N, hN⟩ : ∃ N, textR (s.drop p) = N := ⟨_, rfl⟩
  rw [hN]
  have HN : Hid (N = (takeR 34 (s.drop p)).bind fun _ t => txtR (t.length + 1) t []) := Lib.hid hN.symm
  have HRB := Lib.hid hB
  have HBL := Lib.hid h.lt
  have ht := take_any b s p 34 w h hp (by omega)
  rw [show (((34 : UInt8).toNat : Nat) : Int) = 34 from rfl] at ht
  obtain ⟨T, hT⟩ : ∃ T, takeR 34 (s.drop p) = T := ⟨_, rfl⟩
  rw [hT] at ht HN
  have HT := Lib.hid ht
  clear h hB hN ht hT
  go_enter Tryd.func75, Tryd.ntmps75
  go_wp2_with fail
  refine HT.out.mono ?_
  intro e w1 hU
  have HU := Lib.hid hU
  clear hU HT
  rcases T with ⟨x, r⟩ | ⟨c, n⟩
  rotate_left
  · obtain ⟨⟨bf, rfl, hf⟩, hg⟩ := HU.out
    have HX : Hid (TextP b s N w (.panicked [{ v := .iface 76 (.pointer (some ⟨bf, 0, none⟩)), recovered := false }]) w1) := Lib.hid (by
      rw [HN.out]
      exact ⟨⟨bf, rfl, hf⟩, hg⟩)
    clear hf hg
    go_wp2_with fail
    exact ⟨rfl, HX.out⟩
  obtain ⟨rfl, ⟨q0, h1, h2, h3⟩, h4⟩ := HU.out
  have HW : Hid (TxtSt b s N w1.heap.size (r.length + 1) w (w1.alloc (.cells #[.pointer none, .slice none 0 0] 70))) := Lib.hid (by
    refine ⟨q0, [], h1, h3.q ((Q.refl w1).alloc _), h4.reader ((Q.refl w1).alloc _), BJ.new _ w1 h4.size, by simp, ?_, by rw [← h2, List.length_drop]; omega⟩
    rw [HN.out, h2]; rfl)
  clear h2 h3 h4
  go_wp2_with fail
  obtain ⟨ob, hob⟩ : ∃ ob, w1.heap.size = ob := ⟨_, rfl⟩
  obtain ⟨W1, hW1⟩ : ∃ W, w1.alloc (.cells #[.pointer none, .slice none 0 0] 70) = W := ⟨_, rfl⟩
  rw [hW1, hob] at HW
  rw [hW1, hob]
  clear hW1 hob
  go_loopg [4] (r.length + 1) (fun gk s4 wx => Hid (TxtSt b s N ob gk w wx))
  case atStart => exact HW
  case round =>
    have HI := hrel
    clear hrel
    rename World => wa
    obtain ⟨q, acc, hq, hR, hG, hBJ, hal, hNN, hgk⟩ := HI.out
    obtain ⟨g', rfl⟩ : ∃ g', gk = g' + 1 := ⟨gk - 1, by omega⟩
    have HR := Lib.hid hR
    have HG := Lib.hid hG
    have HBJ := Lib.hid hBJ
    have HNN := Lib.hid hNN
    have HGK := Lib.hid hgk
    have c0 : ∀ mm : QW wa, mm.val.cell? ⟨b, 0, none⟩ = some (.string ⟨s.toArray⟩) := fun mm => mm.cell HR.out.c0
    have c1 : ∀ mm : QW wa, mm.val.cell? ⟨b, 1, none⟩ = some (.int .i64 (q : Int)) := fun mm => mm.cell HR.out.c1
    have HBad : Hid (∀ f', N = .bad 54 f' → ∀ a : Nat, s.length - f' = a → ∀ (w1 w2 : World) bf, GX [b] w w1 → FaultJ w2 bf 54 (a : Int) → Q w1 w2 → TextP b s N w (.panicked [{ v := .iface 76 (.pointer (some ⟨bf, 0, none⟩)), recovered := false }]) w2) := Lib.hid (fun f' e a ha w1 w2 bf h1 hf h2 => by
      rw [e]; refine ⟨⟨bf, rfl, ?_⟩, h1.reader h2⟩; rw [ha]; exact hf)
    clear hR hG hBJ hNN hgk
    by_cases hend : q = s.length
    · have g1 : (((q : Int)) == (s.length : Int)) = true := by simp; omega
      have HX := Lib.hid (HBad.out 0 (by rw [HNN.out, List.drop_of_length_le (by omega : s.length ≤ q)]; rfl) q (by omega))
      clear hend HBad
      go_upto_region 3 with (fail)
      refine wp_region_q (by kernel_rfl) (by kernel_rfl) ?_
      (repeat (go_big_quiet_step (fail)))
      refine wpQuiet_nil ?_
      rintro w2 ⟨m2, hm2⟩
      have hq2 : Q wa w2 := by rw [hm2]; exact m2.le
      clear m2 hm2 c0 c1
      have c1 := (HR.out.q hq2).c1
      have HG2 := Lib.hid (HG.out.reader hq2)
      clear hq2
      go_wp2_with fail
      refine (fail_any 54 _ _).mono ?_
      rintro e w3 ⟨⟨bf, rfl, hf⟩, hq3⟩
      have HF := Lib.hid hf
      have HQ3 := Lib.hid hq3
      clear hf hq3
      go_wp2_with fail
      exact ⟨rfl, HX.out _ _ _ HG2.out HF.out HQ3.out⟩
    · have g1 : (((q : Int)) == (s.length : Int)) = false := by simp; omega
      have hlt : q < s.length := by omega
      have hdl := gB_drop s q hlt
      obtain ⟨v, hv⟩ : ∃ v, gB s q = v := ⟨_, rfl⟩
      rw [hv] at hdl
      obtain ⟨D, hD⟩ : ∃ D, s.drop q = D := ⟨_, rfl⟩
      have hDl : D.length = s.length - q := by rw [← hD, List.length_drop]
      have hs := sub_drop s q
      rw [hD] at hs hdl
      have hne : D ≠ [] := by rw [hdl]; simp
      have hN2 := HNN.out
      rw [hD] at hN2
      have HD := Lib.hid hD
      have HDV := Lib.hid hdl
      have HDec := Lib.hid (fun W (hW : Q wa W) => decode_any D hne wB b W ((HRB.out.gx HG.out).gx (GX.q hW)))
      have HK := Lib.hid (dec_k D hne)
      have HTop := Lib.hid (dec_top D hne)
      have HAsc := Lib.hid (fun h : v.toNat < 128 => (show Lib.decodeL D = (v.toNat, 1) by rw [hdl]; exact dec_ascii _ h))
      have HHigh := Lib.hid (fun h : ¬ v.toNat < 128 => (show 128 ≤ (Lib.decodeL D).1 by rw [hdl]; exact dec_high _ h))
      have HU : Hid (utfN D = if (Lib.decodeL D).1 = 65533 ∧ (Lib.decodeL D).2 = 1 then 0 else (Lib.decodeL D).2) := Lib.hid (by unfold utfN; rw [if_neg hne])
      have HEnc := Lib.hid (fun h => Lib.encode_decode D hne h)
      obtain ⟨R, hRR⟩ : ∃ R, (Lib.decodeL D).1 = R := ⟨_, rfl⟩
      obtain ⟨K, hKK⟩ : ∃ K, (Lib.decodeL D).2 = K := ⟨_, rfl⟩
      rw [hRR, hKK] at HDec HU HEnc
      rw [hRR] at HTop HHigh
      rw [hKK] at HK
      have HPair : Hid (Lib.decodeL D = (R, K)) := Lib.hid (by rw [← hRR, ← hKK])
      have HN2 := Lib.hid hN2
      have HDl := Lib.hid hDl
      clear hdl hv hD hDl hN2 hne hRR hKK hend
      go_upto_region 3 with (fail)
      refine wp_region_q (by kernel_rfl) (by kernel_rfl) ?_
      (repeat (go_big_quiet_step (fail)))
      refine wpQuiet_nil ?_
      rintro w2 ⟨m2, hm2⟩
      have hq2 : Q wa w2 := by rw [hm2]; exact m2.le
      clear m2 hm2 c0 c1 g1
      have HQ2 := Lib.hid hq2
      have c0 : ∀ mm : QW w2, mm.val.cell? ⟨b, 0, none⟩ = some (.string ⟨s.toArray⟩) := fun mm => mm.cell (HR.out.q HQ2.out).c0
      have c1 : ∀ mm : QW w2, mm.val.cell? ⟨b, 1, none⟩ = some (.int .i64 (q : Int)) := fun mm => mm.cell (HR.out.q HQ2.out).c1
      clear hq2
      go_upto_region 5 with (fail)
      refine wp_region_q (by kernel_rfl) (by kernel_rfl) ?_
      (repeat (go_big_quiet_step ((go_at_call 104; exact calls_q (HDec.out _ (HQ2.out.trans (QW.le _)))))))
      refine wpQuiet_nil ?_
      rintro w3 ⟨m3, hm3⟩
      have hq3 : Q wa w3 := HQ2.out.trans (by rw [hm3]; exact m3.le)
      clear m3 hm3 c0 c1 HDec
      have HR3 := Lib.hid (HR.out.q hq3)
      have HG3 := Lib.hid (HG.out.reader hq3)
      have HBJ3 := Lib.hid (HBJ.out.q hq3)
      have HRB3 := Lib.hid ((HRB.out.gx HG3.out))
      have hsz := HG3.out.size
      have c1 := HR3.out.c1
      have f1 := HR3.out.f 1
      have HST : Hid (N = if v = 34 then .ok acc (s.drop (q + 1)) else if v = 92 then (escR D).bind fun c u => txtR g' u (acc ++ c)
          else if v.toNat < 32 ∨ utfN D = 0 then .bad 54 D.length else txtR g' (D.drop (utfN D)) (acc ++ D.take (utfN D))) := Lib.hid (by
        rw [HN2.out, HDV.out, txtR]; rfl)
      have hR0 : (0 : Int) ≤ R := by omega
      have hRi : (R : Int) ≤ 1114111 := by have := HTop.out; omega
      clear hq3 HR HG HBJ HN2 HNN hs
      by_cases h34 : v = 34
      · have hR : R = 34 := by have h1 := HAsc.out (by rw [h34]; decide); rw [HPair.out, h34] at h1; exact (Prod.mk.inj h1).1
        have g1 : (((R : Int)) == 34) = true := by rw [hR]; rfl
        have hst := HST.out
        rw [if_pos h34] at hst
        have HST2 := Lib.hid hst
        have HR4 : Hid (RdB (w3.setCell ⟨b, 1, none⟩ (.int .i64 ((q : Int) + 1))) b s (q + 1)) := Lib.hid (by have := HR3.out.set (q + 1); simpa using this)
        have HG4 : Hid (GX [b] w (w3.setCell ⟨b, 1, none⟩ (.int .i64 ((q : Int) + 1)))) := Lib.hid (HG3.out.set (by simp) _ _)
        have HBJ4 : Hid (BJ w.heap.size ob acc (w3.setCell ⟨b, 1, none⟩ (.int .i64 ((q : Int) + 1)))) := Lib.hid (HBJ3.out.rd HR3.out HBL.out ((GX.refl [b] w3).set (by simp) _ _))
        have HST3 := Lib.hid (fun h => bjString w.heap.size ob acc (w3.setCell ⟨b, 1, none⟩ (.int .i64 ((q : Int) + 1))) HBJ4.out h)
        clear hst h34 hR HST HBad
        go_wp2_with fail
        refine (HST3.out HG4.out.size).mono ?_
        rintro e w4 ⟨rfl, hb4⟩
        have HX : Hid (TextP b s N w (.returned (.string ⟨acc.toArray⟩)) w4) := Lib.hid (by
          rw [HST2.out]; exact ⟨rfl, ⟨q + 1, by omega, rfl, HR4.out.below HBL.out hb4⟩, HG4.out.below hb4⟩)
        clear hb4
        go_wp2_with fail
        go_ret
        exact HX.out
      · by_cases h92 : v = 92
        · have hR : R = 92 := by have h1 := HAsc.out (by rw [h92]; decide); rw [HPair.out, h92] at h1; exact (Prod.mk.inj h1).1
          have g1 : (((R : Int)) == 34) = false := by rw [hR]; rfl
          have g2 : (((R : Int)) == 92) = true := by rw [hR]; rfl
          have hst := HST.out
          rw [if_neg h34, if_pos h92] at hst
          have hgb : gB s q = 92 := by
            have h1 := HDV.out
            rw [← HD.out, gB_drop s q hlt, h92] at h1
            exact (List.cons.inj h1).1
          have HEs := Lib.hid (escape_any b s q w w3 ob acc HR3.out HG3.out HBL.out HBJ3.out hlt hgb hl (by omega))
          rw [HD.out] at HEs
          have hel := fun c r => esc_len (l := D) (c := c) (r := r)
          have hgd := escR_good D
          obtain ⟨E, hE⟩ : ∃ E, escR D = E := ⟨_, rfl⟩
          rw [hE] at HEs hst hel hgd
          have HST2 := Lib.hid hst
          have HEL := Lib.hid hel
          have HGD := Lib.hid hgd
          clear hst h34 h92 hR HST HBad hgb hel hgd hE
          go_wp2_with fail
          refine HEs.out.mono ?_
          intro e w4 hU
          have HU4 := Lib.hid hU
          clear hU HEs
          rcases E with ⟨c, t⟩ | ⟨c, n⟩
          · obtain ⟨rfl, ⟨q2, k1, k2, k3⟩, k4, k5⟩ := HU4.out
            have hln := HEL.out c t rfl
            have HX : Hid (TxtSt b s N ob g' w w4) := Lib.hid (by
              have hdl := HDl.out
              have h2 : t.length = s.length - q2 := by rw [← k2, List.length_drop]
              have h3 := HGK.out
              refine ⟨q2, acc ++ c, k1, k3, k4, k5, by rw [List.length_append]; omega, ?_, by omega⟩
              rw [HST2.out, k2]; rfl)
            clear k2 k3 k4 k5 hln
            go_wp2_with fail
            go_roundg g'
            case measure => omega
            case rel => exact HX
          · obtain ⟨⟨bf, rfl, hf⟩, hg⟩ := HU4.out
            have HX : Hid (TextP b s N w (.panicked [{ v := .iface 76 (.pointer (some ⟨bf, 0, none⟩)), recovered := false }]) w4) := Lib.hid (by
              rw [HST2.out]
              exact ⟨⟨bf, rfl, hf⟩, hg⟩)
            clear hf hg
            go_wp2_with fail
            exact ⟨rfl, HX.out⟩
        · have hR34 : R ≠ 34 := fun e => by
            by_cases ha : v.toNat < 128
            · have h1 := HAsc.out ha
              rw [HPair.out] at h1
              exact h34 (UInt8.toNat_inj.1 (by rw [← (Prod.mk.inj h1).1, e]; rfl))
            · have := HHigh.out ha; omega
          have hR92 : R ≠ 92 := fun e => by
            by_cases ha : v.toNat < 128
            · have h1 := HAsc.out ha
              rw [HPair.out] at h1
              exact h92 (UInt8.toNat_inj.1 (by rw [← (Prod.mk.inj h1).1, e]; rfl))
            · have := HHigh.out ha; omega
          have hR32 : R < 32 ↔ v.toNat < 32 := by
            by_cases ha : v.toNat < 128
            · have h1 := HAsc.out ha
              rw [HPair.out] at h1
              rw [(Prod.mk.inj h1).1]
            · have := HHigh.out ha; omega
          have g1 : (((R : Int)) == 34) = false := by simp; omega
          have g2 : (((R : Int)) == 92) = false := by simp; omega
          have hst := HST.out
          rw [if_neg h34, if_neg h92] at hst
          clear HST h34 h92 hR34 hR92
          by_cases hbad : R < 32 ∨ (R = 65533 ∧ K = 1)
          · have hb : v.toNat < 32 ∨ utfN D = 0 := by
              rcases hbad with h | h
              · exact .inl (hR32.1 h)
              · right; rw [HU.out, if_pos h]
            rw [if_pos hb] at hst
            have HX := Lib.hid (HBad.out D.length hst q (by rw [HDl.out]; omega))
            have hcs : R < 32 ∨ (32 ≤ R ∧ R = 65533 ∧ K = 1) := by omega
            clear hb hst hbad HBad hR32
            rcases hcs with hc | ⟨hc, hr, hk⟩
            · have g3 : decide ((R : Int) < 32) = true := by simp; omega
              go_wp2_with fail
              refine (fail_any 54 _ _).mono ?_
              rintro e w4 ⟨⟨bf, rfl, hf⟩, hq4⟩
              have HF := Lib.hid hf
              have HQ4 := Lib.hid hq4
              clear hf hq4
              go_wp2_with fail
              exact ⟨rfl, HX.out _ _ _ HG3.out HF.out HQ4.out⟩
            · have g3 : decide ((R : Int) < 32) = false := by simp; omega
              have g4 : (((R : Int)) == 65533) = true := by rw [hr]; rfl
              have g5 : (((K : Int)) == 1) = true := by rw [hk]; rfl
              clear hr hk
              go_wp2_with fail
              refine (fail_any 54 _ _).mono ?_
              rintro e w4 ⟨⟨bf, rfl, hf⟩, hq4⟩
              have HF := Lib.hid hf
              have HQ4 := Lib.hid hq4
              clear hf hq4
              go_wp2_with fail
              exact ⟨rfl, HX.out _ _ _ HG3.out HF.out HQ4.out⟩
          · have hnb : ¬ (R = 65533 ∧ K = 1) := fun h => hbad (.inr h)
            have hk1 := HK.out
            have hu : utfN D = K := by rw [HU.out, if_neg hnb]
            have hb : ¬ (v.toNat < 32 ∨ utfN D = 0) := by
              rintro (h | h)
              · exact hbad (.inl (hR32.2 h))
              · rw [hu] at h; omega
            rw [if_neg hb, hu, ← HEnc.out hnb] at hst
            have HST2 := Lib.hid hst
            have g3 : decide ((R : Int) < 32) = false := by simp; omega
            have hcs : (((R : Int)) == 65533) = false ∨ ((((R : Int)) == 65533) = true ∧ (((K : Int)) == 1) = false) := by
              by_cases h : R = 65533
              · right; exact ⟨by rw [h]; rfl, by simp; omega⟩
              · left; simp; omega
            have HWr := Lib.hid (bjRune w.heap.size ob acc (R : Int) (by omega) (by omega) w3 HBJ3.out (by omega) hsz)
            have HKl : Hid (K ≤ s.length - q) := Lib.hid (by rw [← HDl.out]; exact hk1.2.2)
            have hKi : (K : Int) ≤ 4 := by omega
            have hqi : (q : Int) ≤ 1000000000 := by omega
            have hel := (enc_len (R : Int)).2
            have HDrop : Hid (D.drop K = s.drop (q + K)) := Lib.hid (by rw [← HD.out, List.drop_drop])
            have HK1 := Lib.hid hk1.1
            have HNext : Hid (∀ w4, BJ w.heap.size ob (acc ++ Lib.encodeRune (R : Int)) w4 → Below w.heap.size w3 w4 → TxtSt b s N ob g' w (w4.setCell ⟨b, 1, none⟩ (.int .i64 ((q : Int) + (K : Int))))) := Lib.hid (fun w4 h1 h2 => by
              have hR4 := HR3.out.below HBL.out h2
              have e1 : ((q : Int) + (K : Int)) = ((q + K : Nat) : Int) := by omega
              have hR5 : RdB (w4.setCell ⟨b, 1, none⟩ (.int .i64 ((q : Int) + (K : Int)))) b s (q + K) := by rw [e1]; exact hR4.set (q + K)
              have hgk := HGK.out
              have := HKl.out
              have := HK1.out
              refine ⟨q + K, acc ++ Lib.encodeRune (R : Int), by omega, hR5, (HG3.out.below h2).set (by simp) _ _, h1.rd hR4 HBL.out ((GX.refl [b] w4).set (by simp) _ _), by rw [List.length_append]; omega, ?_, by omega⟩
              rw [HST2.out, HDrop.out])
            clear hb hst hbad HBad hnb hk1 hu hR32 hel
            rcases hcs with g4 | ⟨g4, g5⟩
            all_goals
              go_wp2_with fail
              refine HWr.out.mono ?_
              rintro e w4 ⟨rfl, hb4, hbl4⟩
              have HX := Lib.hid (HNext.out w4 hb4 hbl4)
              clear c1 f1
              have c1 := (HR3.out.below HBL.out hbl4).c1
              have f1 := (HR3.out.below HBL.out hbl4).f 1
              clear hb4 hbl4 HWr HNext
              go_wp2_with fail
              go_roundg g'
              case measure => omega
              case rel => exact HX
end Go.Proofs.YtlhhiiemojhjdaaDoor
