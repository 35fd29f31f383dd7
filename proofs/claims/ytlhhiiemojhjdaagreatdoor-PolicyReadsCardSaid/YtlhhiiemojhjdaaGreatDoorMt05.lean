/- Texts of this proof, laid into one: KbJ, KbK, Pure, Mix, Rnd, Hld, Fin, Flo, Frk. -/
import Derived.Test.YtlhhiiemojhjdaaGreatDoorMt04
import Derived.OrdersHeld
import Derived.StillTail
import Derived.RangeFuncCalls
import Derived.OrdersIn
import Derived.TacticsIn
import Derived.Deep.RegionHeld3
set_option linter.unusedVariables false
set_option linter.unusedSimpArgs false
namespace Go.Proofs.YtlhhiiemojhjdaaGreatDoor
open Go Go.RowKit
structure RB (wB : World) (b : Nat) (w : World) : Prop where
  ut : Lib.Utf8Tabs 0 1 wB
  q : Q wB w
  lt : wB.heap.size ≤ b
theorem RB.gx {wB : World} {b : Nat} {w w' : World} (h : RB wB b w) (hg : GX [b] w w') : RB wB b w' :=
  ⟨h.ut, hg.toQ h.q (by intro k hk; simp at hk; subst hk; exact h.lt), h.lt⟩
theorem RB.u {wB : World} {b : Nat} {w : World} (h : RB wB b w) : Lib.Utf8Tabs 0 1 w := Utf8Tabs_below h.ut h.q
def TextP (b : Nat) (s : Txt) (a : PR Txt) (w0 : World) (e : Ending) (w' : World) : Prop :=
  match a with
  | .ok t r => e = .returned (.string ⟨t.toArray⟩) ∧ (∃ q, q ≤ s.length ∧ s.drop q = r ∧ RdB w' b s q) ∧ GX [b] w0 w'
  | .bad c n => Gave b s c n w0 e w'
def TxtSt (b : Nat) (s : Txt) (N : PR Txt) (ob gk : Nat) (w0 W : World) : Prop :=
  ∃ q acc, q ≤ s.length ∧ RdB W b s q ∧ GX [b] w0 W ∧ BJ w0.heap.size ob acc W ∧ acc.length ≤ 4 * q ∧ N = txtR gk (s.drop q) acc ∧ s.length - q < gk
theorem decode_any (l : Txt) (h0 : l ≠ []) (wB : World) (b : Nat) (w : World) (hB : RB wB b w) :
    Calls Tryz.prog 73 #[.string ⟨l.toArray⟩] w fun e w' => e = .returned (.tuple #[.int .i32 ((Lib.decodeL l).1 : Nat), .int .i64 ((Lib.decodeL l).2 : Nat)]) ∧ Q w w' := by
  have h := Tryz.utf8_DecodeRuneInString ⟨l.toArray⟩ w hB.u
  have e : Lib.decodeGo ⟨l.toArray⟩ = Lib.decodeL l := dec_go l h0
  rw [e] at h
  exact h
theorem esc_len {l : Txt} {c : Txt} {r : Txt} (h : escR l = .ok c r) : c.length ≤ 4 ∧ r.length + 2 ≤ l.length := by
  match l, h with
  | [], h => cases h
  | [a], h => cases h
  | a :: b :: t, h =>
    rw [escR] at h
    have four_len : ∀ (f k n : Nat) (l : Txt) (v : Nat) (r : Txt), fourR f k n l = .ok v r → r.length ≤ l.length := fun f k n l v r e => by
      have := fourR_good (m := l ++ List.replicate f 0) (f := f) (by simp) k n l
      induction k generalizing n l with
      | zero => rw [fourR] at e; injection e with _ e; rw [e]; omega
      | succ k ih =>
        cases l with
        | nil => rw [fourR] at e; cases e
        | cons c t =>
          rw [fourR] at e
          cases hx : hexJ c with
          | none => rw [hx] at e; cases e
          | some d =>
            rw [hx] at e
            have := ih (16 * n + d) t e (fun hs => fourR_good (by simp) k _ t hs)
            simp only [List.length_cons]; omega
    have unit_len : ∀ (f : Nat) (l : Txt) (v : Nat) (r : Txt), unitR f l = .ok v r → r.length ≤ l.length := fun f l v r e => by
      unfold unitR at e
      match l, e with
      | [], e => cases e
      | [x], e =>
        rw [mustR] at e
        split at e
        · cases e
        · cases e
      | x :: y :: u, e =>
        rw [mustR] at e
        split at e
        · have e : (mustR f 117 (y :: u)).bind (fun _ u => fourR f 4 0 u) = .ok v r := e
          rw [mustR] at e
          split at e
          · have := four_len f 4 0 u v r e
            simp only [List.length_cons]; omega
          · cases e
        · cases e
    split at h
    · cases hF : fourR (a :: b :: t).length 4 0 t with
      | bad c n => rw [hF] at h; cases h
      | ok n u =>
        rw [hF] at h
        have h : codeR (a :: b :: t).length n u = .ok c r := h
        have h1 := four_len _ _ _ _ _ _ hF
        unfold codeR at h
        split at h
        · cases h
        · split at h
          · cases hU : unitR (a :: b :: t).length u with
            | bad c n => rw [hU] at h; cases h
            | ok d v =>
              rw [hU] at h
              have h2 := unit_len _ _ _ _ hU
              have h : (if 56320 ≤ d ∧ d ≤ 57343 then PR.ok (Lib.encodeRune ((65536 + 1024 * (n - 55296) + (d - 56320) : Nat) : Int)) v else PR.bad 54 (a :: b :: t).length) = .ok c r := h
              split at h
              · injection h with h3 h4
                rw [← h3, ← h4]
                exact ⟨(enc_len _).2, by simp only [List.length_cons]; omega⟩
              · cases h
          · injection h with h3 h4
            rw [← h3, ← h4]
            exact ⟨(enc_len _).2, by simp only [List.length_cons]; omega⟩
    · cases hS : simpleE b with
      | none => rw [hS] at h; cases h
      | some d =>
        rw [hS] at h
        injection h with h3 h4
        rw [← h3, ← h4]
        simp
set_option maxRecDepth 100000 in
theorem text_any (b : Nat) (s : Txt) (p : Nat) (wB w : World) (h : RdB w b s p) (hB : RB wB b w) (hp : p ≤ s.length) (hl : s.length ≤ 1000000000) :
    Calls Tryz.prog 63 #[.pointer (some ⟨b, 0, none⟩)] w (TextP b s (textR (s.drop p)) w) := by
  obtain ⟨N, hN⟩ : ∃ N, textR (s.drop p) = N := ⟨_, rfl⟩
  rw [hN]
  have HN : Hid (N = (takeR 34 (s.drop p)).bind fun _ t => txtR (t.length + 1) t []) := Lib.hid hN.symm
  have HRB := Lib.hid hB
  have HBL := Lib.hid h.lt
  have ht := take_any b s p 34 w h hp (by omega)
  rw [show (((34 : UInt8).toNat : Nat) : Int) = 34 from rfl] at ht
  obtain ⟨T, hT⟩ : ∃ T, takeR 34 (s.drop p) = T := ⟨_, rfl⟩
  rw [hT] at ht HN
  have HT := Lib.hid ht
  clear h hB hN ht hT
  go_enter Tryz.func63, Tryz.ntmps63
  go_wp2_with fail
  refine HT.out.mono ?_
  intro e w1 hU
  have HU := Lib.hid hU
  clear hU HT
  rcases T with ⟨x, r⟩ | ⟨c, n⟩
  rotate_left
  · obtain ⟨⟨bf, rfl, hf⟩, hg⟩ := HU.out
    have HX : Hid (TextP b s N w (.panicked [{ v := .iface 32 (.pointer (some ⟨bf, 0, none⟩)), recovered := false }]) w1) := Lib.hid (by
      rw [HN.out]
      exact ⟨⟨bf, rfl, hf⟩, hg⟩)
    clear hf hg
    go_wp2_with fail
    exact ⟨rfl, HX.out⟩
  obtain ⟨rfl, ⟨q0, h1, h2, h3⟩, h4⟩ := HU.out
  have HW : Hid (TxtSt b s N w1.heap.size (r.length + 1) w (w1.alloc (.cells #[.pointer none, .slice none 0 0] 123))) := Lib.hid (by
    refine ⟨q0, [], h1, h3.q ((Q.refl w1).alloc _), h4.reader ((Q.refl w1).alloc _), BJ.new _ w1 h4.size, by simp, ?_, by rw [← h2, List.length_drop]; omega⟩
    rw [HN.out, h2]; rfl)
  clear h2 h3 h4
  go_wp2_with fail
  obtain ⟨ob, hob⟩ : ∃ ob, w1.heap.size = ob := ⟨_, rfl⟩
  obtain ⟨W1, hW1⟩ : ∃ W, w1.alloc (.cells #[.pointer none, .slice none 0 0] 123) = W := ⟨_, rfl⟩
  rw [hW1, hob] at HW
  rw [hW1, hob]
  clear hW1 hob
  go_loopg [4] (r.length + 1) (fun gk s4 wx => Hid (TxtSt b s N ob gk w wx))
  case atStart => exact HW
  case round =>
    have HI := hrel
    clear hrel
    rename World => wa
    obtain ⟨q, acc, hq, hR, hG, hBJ, hal, hNN, hgk⟩ := HI.out
    obtain ⟨g', rfl⟩ : ∃ g', gk = g' + 1 := ⟨gk - 1, by omega⟩
    have HR := Lib.hid hR
    have HG := Lib.hid hG
    have HBJ := Lib.hid hBJ
    have HNN := Lib.hid hNN
    have HGK := Lib.hid hgk
    have c0 : ∀ mm : QW wa, mm.val.cell? ⟨b, 0, none⟩ = some (.string ⟨s.toArray⟩) := fun mm => mm.cell HR.out.c0
    have c1 : ∀ mm : QW wa, mm.val.cell? ⟨b, 1, none⟩ = some (.int .i64 (q : Int)) := fun mm => mm.cell HR.out.c1
    have HBad : Hid (∀ f', N = .bad 54 f' → ∀ a : Nat, s.length - f' = a → ∀ (w1 w2 : World) bf, GX [b] w w1 → FaultJ w2 bf 54 (a : Int) → Q w1 w2 → TextP b s N w (.panicked [{ v := .iface 32 (.pointer (some ⟨bf, 0, none⟩)), recovered := false }]) w2) := Lib.hid (fun f' e a ha w1 w2 bf h1 hf h2 => by
      rw [e]; refine ⟨⟨bf, rfl, ?_⟩, h1.reader h2⟩; rw [ha]; exact hf)
    clear hR hG hBJ hNN hgk
    by_cases hend : q = s.length
    · have g1 : (((q : Int)) == (s.length : Int)) = true := by simp; omega
      have HX := Lib.hid (HBad.out 0 (by rw [HNN.out, List.drop_of_length_le (by omega : s.length ≤ q)]; rfl) q (by omega))
      clear hend HBad
      go_upto_region 3 with (fail)
      refine wp_region_q (by kernel_rfl) (by kernel_rfl) ?_
      (repeat (go_big_quiet_step (fail)))
      refine wpQuiet_nil ?_
      rintro w2 ⟨m2, hm2⟩
      have hq2 : Q wa w2 := by rw [hm2]; exact m2.le
      clear m2 hm2 c0 c1
      have c1 := (HR.out.q hq2).c1
      have HG2 := Lib.hid (HG.out.reader hq2)
      clear hq2
      go_wp2_with fail
      refine (fail_any 54 _ _).mono ?_
      rintro e w3 ⟨⟨bf, rfl, hf⟩, hq3⟩
      have HF := Lib.hid hf
      have HQ3 := Lib.hid hq3
      clear hf hq3
      go_wp2_with fail
      exact ⟨rfl, HX.out _ _ _ HG2.out HF.out HQ3.out⟩
    · have g1 : (((q : Int)) == (s.length : Int)) = false := by simp; omega
      have hlt : q < s.length := by omega
      have hdl := gB_drop s q hlt
      obtain ⟨v, hv⟩ : ∃ v, gB s q = v := ⟨_, rfl⟩
      rw [hv] at hdl
      obtain ⟨D, hD⟩ : ∃ D, s.drop q = D := ⟨_, rfl⟩
      have hDl : D.length = s.length - q := by rw [← hD, List.length_drop]
      have hs := sub_drop s q
      rw [hD] at hs hdl
      have hne : D ≠ [] := by rw [hdl]; simp
      have hN2 := HNN.out
      rw [hD] at hN2
      have HD := Lib.hid hD
      have HDV := Lib.hid hdl
      have HDec := Lib.hid (fun W (hW : Q wa W) => decode_any D hne wB b W ((HRB.out.gx HG.out).gx (GX.q hW)))
      have HK := Lib.hid (dec_k D hne)
      have HTop := Lib.hid (dec_top D hne)
      have HAsc := Lib.hid (fun h : v.toNat < 128 => (show Lib.decodeL D = (v.toNat, 1) by rw [hdl]; exact dec_ascii _ h))
      have HHigh := Lib.hid (fun h : ¬ v.toNat < 128 => (show 128 ≤ (Lib.decodeL D).1 by rw [hdl]; exact dec_high _ h))
      have HU : Hid (utfN D = if (Lib.decodeL D).1 = 65533 ∧ (Lib.decodeL D).2 = 1 then 0 else (Lib.decodeL D).2) := Lib.hid (by unfold utfN; rw [if_neg hne])
      have HEnc := Lib.hid (fun h => Lib.encode_decode D hne h)
      obtain ⟨R, hRR⟩ : ∃ R, (Lib.decodeL D).1 = R := ⟨_, rfl⟩
      obtain ⟨K, hKK⟩ : ∃ K, (Lib.decodeL D).2 = K := ⟨_, rfl⟩
      rw [hRR, hKK] at HDec HU HEnc
      rw [hRR] at HTop HHigh
      rw [hKK] at HK
      have HPair : Hid (Lib.decodeL D = (R, K)) := Lib.hid (by rw [← hRR, ← hKK])
      have HN2 := Lib.hid hN2
      have HDl := Lib.hid hDl
      clear hdl hv hD hDl hN2 hne hRR hKK hend
      go_upto_region 3 with (fail)
      refine wp_region_q (by kernel_rfl) (by kernel_rfl) ?_
      (repeat (go_big_quiet_step (fail)))
      refine wpQuiet_nil ?_
      rintro w2 ⟨m2, hm2⟩
      have hq2 : Q wa w2 := by rw [hm2]; exact m2.le
      clear m2 hm2 c0 c1 g1
      have HQ2 := Lib.hid hq2
      have c0 : ∀ mm : QW w2, mm.val.cell? ⟨b, 0, none⟩ = some (.string ⟨s.toArray⟩) := fun mm => mm.cell (HR.out.q HQ2.out).c0
      have c1 : ∀ mm : QW w2, mm.val.cell? ⟨b, 1, none⟩ = some (.int .i64 (q : Int)) := fun mm => mm.cell (HR.out.q HQ2.out).c1
      clear hq2
      go_upto_region 5 with (fail)
      refine wp_region_q (by kernel_rfl) (by kernel_rfl) ?_
      (repeat (go_big_quiet_step ((go_at_call 73; exact calls_q (HDec.out _ (HQ2.out.trans (QW.le _)))))))
      refine wpQuiet_nil ?_
      rintro w3 ⟨m3, hm3⟩
      have hq3 : Q wa w3 := HQ2.out.trans (by rw [hm3]; exact m3.le)
      clear m3 hm3 c0 c1 HDec
      have HR3 := Lib.hid (HR.out.q hq3)
      have HG3 := Lib.hid (HG.out.reader hq3)
      have HBJ3 := Lib.hid (HBJ.out.q hq3)
      have HRB3 := Lib.hid ((HRB.out.gx HG3.out))
      have hsz := HG3.out.size
      have c1 := HR3.out.c1
      have f1 := HR3.out.f 1
      have HST : Hid (N = if v = 34 then .ok acc (s.drop (q + 1)) else if v = 92 then (escR D).bind fun c u => txtR g' u (acc ++ c)
          else if v.toNat < 32 ∨ utfN D = 0 then .bad 54 D.length else txtR g' (D.drop (utfN D)) (acc ++ D.take (utfN D))) := Lib.hid (by
        rw [HN2.out, HDV.out, txtR]; rfl)
      have hR0 : (0 : Int) ≤ R := by omega
      have hRi : (R : Int) ≤ 1114111 := by have := HTop.out; omega
      clear hq3 HR HG HBJ HN2 HNN hs
      by_cases h34 : v = 34
      · have hR : R = 34 := by have h1 := HAsc.out (by rw [h34]; decide); rw [HPair.out, h34] at h1; exact (Prod.mk.inj h1).1
        have g1 : (((R : Int)) == 34) = true := by rw [hR]; rfl
        have hst := HST.out
        rw [if_pos h34] at hst
        have HST2 := Lib.hid hst
        have HR4 : Hid (RdB (w3.setCell ⟨b, 1, none⟩ (.int .i64 ((q : Int) + 1))) b s (q + 1)) := Lib.hid (by have := HR3.out.set (q + 1); simpa using this)
        have HG4 : Hid (GX [b] w (w3.setCell ⟨b, 1, none⟩ (.int .i64 ((q : Int) + 1)))) := Lib.hid (HG3.out.set (by simp) _ _)
        have HBJ4 : Hid (BJ w.heap.size ob acc (w3.setCell ⟨b, 1, none⟩ (.int .i64 ((q : Int) + 1)))) := Lib.hid (HBJ3.out.rd HR3.out HBL.out ((GX.refl [b] w3).set (by simp) _ _))
        have HST3 := Lib.hid (fun h => bjString w.heap.size ob acc (w3.setCell ⟨b, 1, none⟩ (.int .i64 ((q : Int) + 1))) HBJ4.out h)
        clear hst h34 hR HST HBad
        go_wp2_with fail
        refine (HST3.out HG4.out.size).mono ?_
        rintro e w4 ⟨rfl, hb4⟩
        have HX : Hid (TextP b s N w (.returned (.string ⟨acc.toArray⟩)) w4) := Lib.hid (by
          rw [HST2.out]; exact ⟨rfl, ⟨q + 1, by omega, rfl, HR4.out.below HBL.out hb4⟩, HG4.out.below hb4⟩)
        clear hb4
        go_wp2_with fail
        go_ret
        exact HX.out
      · by_cases h92 : v = 92
        · have hR : R = 92 := by have h1 := HAsc.out (by rw [h92]; decide); rw [HPair.out, h92] at h1; exact (Prod.mk.inj h1).1
          have g1 : (((R : Int)) == 34) = false := by rw [hR]; rfl
          have g2 : (((R : Int)) == 92) = true := by rw [hR]; rfl
          have hst := HST.out
          rw [if_neg h34, if_pos h92] at hst
          have hgb : gB s q = 92 := by
            have h1 := HDV.out
            rw [← HD.out, gB_drop s q hlt, h92] at h1
            exact (List.cons.inj h1).1
          have HEs := Lib.hid (escape_any b s q w w3 ob acc HR3.out HG3.out HBL.out HBJ3.out hlt hgb hl (by omega))
          rw [HD.out] at HEs
          have hel := fun c r => esc_len (l := D) (c := c) (r := r)
          have hgd := escR_good D
          obtain ⟨E, hE⟩ : ∃ E, escR D = E := ⟨_, rfl⟩
          rw [hE] at HEs hst hel hgd
          have HST2 := Lib.hid hst
          have HEL := Lib.hid hel
          have HGD := Lib.hid hgd
          clear hst h34 h92 hR HST HBad hgb hel hgd hE
          go_wp2_with fail
          refine HEs.out.mono ?_
          intro e w4 hU
          have HU4 := Lib.hid hU
          clear hU HEs
          rcases E with ⟨c, t⟩ | ⟨c, n⟩
          · obtain ⟨rfl, ⟨q2, k1, k2, k3⟩, k4, k5⟩ := HU4.out
            have hln := HEL.out c t rfl
            have HX : Hid (TxtSt b s N ob g' w w4) := Lib.hid (by
              have hdl := HDl.out
              have h2 : t.length = s.length - q2 := by rw [← k2, List.length_drop]
              have h3 := HGK.out
              refine ⟨q2, acc ++ c, k1, k3, k4, k5, by rw [List.length_append]; omega, ?_, by omega⟩
              rw [HST2.out, k2]; rfl)
            clear k2 k3 k4 k5 hln
            go_wp2_with fail
            go_roundg g'
            case measure => omega
            case rel => exact HX
          · obtain ⟨⟨bf, rfl, hf⟩, hg⟩ := HU4.out
            have HX : Hid (TextP b s N w (.panicked [{ v := .iface 32 (.pointer (some ⟨bf, 0, none⟩)), recovered := false }]) w4) := Lib.hid (by
              rw [HST2.out]
              exact ⟨⟨bf, rfl, hf⟩, hg⟩)
            clear hf hg
            go_wp2_with fail
            exact ⟨rfl, HX.out⟩
        · have hR34 : R ≠ 34 := fun e => by
            by_cases ha : v.toNat < 128
            · have h1 := HAsc.out ha
              rw [HPair.out] at h1
              exact h34 (UInt8.toNat_inj.1 (by rw [← (Prod.mk.inj h1).1, e]; rfl))
            · have := HHigh.out ha; omega
          have hR92 : R ≠ 92 := fun e => by
            by_cases ha : v.toNat < 128
            · have h1 := HAsc.out ha
              rw [HPair.out] at h1
              exact h92 (UInt8.toNat_inj.1 (by rw [← (Prod.mk.inj h1).1, e]; rfl))
            · have := HHigh.out ha; omega
          have hR32 : R < 32 ↔ v.toNat < 32 := by
            by_cases ha : v.toNat < 128
            · have h1 := HAsc.out ha
              rw [HPair.out] at h1
              rw [(Prod.mk.inj h1).1]
            · have := HHigh.out ha; omega
          have g1 : (((R : Int)) == 34) = false := by simp; omega
          have g2 : (((R : Int)) == 92) = false := by simp; omega
          have hst := HST.out
          rw [if_neg h34, if_neg h92] at hst
          clear HST h34 h92 hR34 hR92
          by_cases hbad : R < 32 ∨ (R = 65533 ∧ K = 1)
          · have hb : v.toNat < 32 ∨ utfN D = 0 := by
              rcases hbad with h | h
              · exact .inl (hR32.1 h)
              · right; rw [HU.out, if_pos h]
            rw [if_pos hb] at hst
            have HX := Lib.hid (HBad.out D.length hst q (by rw [HDl.out]; omega))
            have hcs : R < 32 ∨ (32 ≤ R ∧ R = 65533 ∧ K = 1) := by omega
            clear hb hst hbad HBad hR32
            rcases hcs with hc | ⟨hc, hr, hk⟩
            · have g3 : decide ((R : Int) < 32) = true := by simp; omega
              go_wp2_with fail
              refine (fail_any 54 _ _).mono ?_
              rintro e w4 ⟨⟨bf, rfl, hf⟩, hq4⟩
              have HF := Lib.hid hf
              have HQ4 := Lib.hid hq4
              clear hf hq4
              go_wp2_with fail
              exact ⟨rfl, HX.out _ _ _ HG3.out HF.out HQ4.out⟩
            · have g3 : decide ((R : Int) < 32) = false := by simp; omega
              have g4 : (((R : Int)) == 65533) = true := by rw [hr]; rfl
              have g5 : (((K : Int)) == 1) = true := by rw [hk]; rfl
              clear hr hk
              go_wp2_with fail
              refine (fail_any 54 _ _).mono ?_
              rintro e w4 ⟨⟨bf, rfl, hf⟩, hq4⟩
              have HF := Lib.hid hf
              have HQ4 := Lib.hid hq4
              clear hf hq4
              go_wp2_with fail
              exact ⟨rfl, HX.out _ _ _ HG3.out HF.out HQ4.out⟩
          · have hnb : ¬ (R = 65533 ∧ K = 1) := fun h => hbad (.inr h)
            have hk1 := HK.out
            have hu : utfN D = K := by rw [HU.out, if_neg hnb]
            have hb : ¬ (v.toNat < 32 ∨ utfN D = 0) := by
              rintro (h | h)
              · exact hbad (.inl (hR32.2 h))
              · rw [hu] at h; omega
            rw [if_neg hb, hu, ← HEnc.out hnb] at hst
            have HST2 := Lib.hid hst
            have g3 : decide ((R : Int) < 32) = false := by simp; omega
            have hcs : (((R : Int)) == 65533) = false ∨ ((((R : Int)) == 65533) = true ∧ (((K : Int)) == 1) = false) := by
              by_cases h : R = 65533
              · right; exact ⟨by rw [h]; rfl, by simp; omega⟩
              · left; simp; omega
            have HWr := Lib.hid (bjRune w.heap.size ob acc (R : Int) (by omega) (by omega) w3 HBJ3.out (by omega) hsz)
            have HKl : Hid (K ≤ s.length - q) := Lib.hid (by rw [← HDl.out]; exact hk1.2.2)
            have hKi : (K : Int) ≤ 4 := by omega
            have hqi : (q : Int) ≤ 1000000000 := by omega
            have hel := (enc_len (R : Int)).2
            have HDrop : Hid (D.drop K = s.drop (q + K)) := Lib.hid (by rw [← HD.out, List.drop_drop])
            have HK1 := Lib.hid hk1.1
            have HNext : Hid (∀ w4, BJ w.heap.size ob (acc ++ Lib.encodeRune (R : Int)) w4 → Below w.heap.size w3 w4 → TxtSt b s N ob g' w (w4.setCell ⟨b, 1, none⟩ (.int .i64 ((q : Int) + (K : Int))))) := Lib.hid (fun w4 h1 h2 => by
              have hR4 := HR3.out.below HBL.out h2
              have e1 : ((q : Int) + (K : Int)) = ((q + K : Nat) : Int) := by omega
              have hR5 : RdB (w4.setCell ⟨b, 1, none⟩ (.int .i64 ((q : Int) + (K : Int)))) b s (q + K) := by rw [e1]; exact hR4.set (q + K)
              have hgk := HGK.out
              have := HKl.out
              have := HK1.out
              refine ⟨q + K, acc ++ Lib.encodeRune (R : Int), by omega, hR5, (HG3.out.below h2).set (by simp) _ _, h1.rd hR4 HBL.out ((GX.refl [b] w4).set (by simp) _ _), by rw [List.length_append]; omega, ?_, by omega⟩
              rw [HST2.out, HDrop.out])
            clear hb hst hbad HBad hnb hk1 hu hR32 hel
            rcases hcs with g4 | ⟨g4, g5⟩
            all_goals
              go_wp2_with fail
              refine HWr.out.mono ?_
              rintro e w4 ⟨rfl, hb4, hbl4⟩
              have HX := Lib.hid (HNext.out w4 hb4 hbl4)
              clear c1 f1
              have c1 := (HR3.out.below HBL.out hbl4).c1
              have f1 := (HR3.out.below HBL.out hbl4).f 1
              clear hb4 hbl4 HWr HNext
              go_wp2_with fail
              go_roundg g'
              case measure => omega
              case rel => exact HX
end Go.Proofs.YtlhhiiemojhjdaaGreatDoor
set_option linter.unusedVariables false
set_option linter.unusedSimpArgs false
namespace Go.Proofs.YtlhhiiemojhjdaaGreatDoor
open Go Go.RowKit
def OneP {α : Type} (b : Nat) (s : Txt) (w0 : World) (J : α → World → Prop) (a : PR α) (e : Ending) (w' : World) : Prop :=
  match a with
  | .ok v r => e = .returned (.tuple #[]) ∧ (∃ q, q ≤ s.length ∧ s.drop q = r ∧ RdB w' b s q) ∧ GX [b] w0 w' ∧ J v w'
  | .bad c n => Gave b s c n w0 e w'
def RowSt {α : Type} (one : Txt → PR α) (c : UInt8) (b : Nat) (s : Txt) (N : PR (List α)) (I : List α → World → Prop) (gk : Nat) (w0 W : World) : Prop :=
  ∃ q acc, q ≤ s.length ∧ RdB W b s q ∧ GX [b] w0 W ∧ I acc W ∧ acc.length ≤ q ∧ N = itemsR one c gk (s.drop q) acc ∧ s.length - q < gk
set_option maxRecDepth 100000 in
theorem row_any {α : Type} (one : Txt → PR α) (h1 : ∀ l, (one l).good l) (h2 : ∀ l, (one l).eats l) (I : List α → World → Prop) (f : Nat) (caps : Array Value) (hent : ∀ args w, (callFunc f args).run Tryz.prog w = .ok (.enter f args) w)
    (b : Nat) (s : Txt) (w0 : World) (hI : ∀ acc W W', I acc W → GX [b] W W' → I acc W') (c : UInt8) (hc0 : c ≠ 0) (hl : s.length ≤ 1000000000)
    (hone : ∀ acc q W, acc.length ≤ q → I acc W → RdB W b s q → GX [b] w0 W → q ≤ s.length → Calls Tryz.prog f caps W (OneP b s w0 (fun v => I (acc ++ [v])) (one (s.drop q))))
    (p : Nat) (w : World) (h : RdB w b s p) (hp : p < s.length) (hg : GX [b] w0 w) (hi : I [] w) :
    Calls Tryz.prog 60 #[.pointer (some ⟨b, 0, none⟩), .int .u8 (c.toNat : Int), .func (.func f) #[] caps] w (OneP b s w0 I (rowR one c (s.drop (p + 1)))) := by
  obtain ⟨N, hN⟩ : ∃ N, rowR one c (s.drop (p + 1)) = N := ⟨_, rfl⟩
  rw [hN]
  have HN := Lib.hid hN.symm
  have HOne := Lib.hid hone
  have HI := Lib.hid hI
  have H1 := Lib.hid h1
  have H2 := Lib.hid h2
  have HC0 := Lib.hid hc0
  have HBl := Lib.hid (fun q W (h : RdB W b s q) (hq : q ≤ s.length) => blanks_any b s q W h hq hl)
  have HPk := Lib.hid (fun q W (h : RdB W b s q) (hq : q ≤ s.length) => peek_any b s q W h hq (by omega))
  have HTk : Hid (∀ q W, RdB W b s q → q ≤ s.length → Calls Tryz.prog 64 #[.pointer (some ⟨b, 0, none⟩), .int .u8 44] W (UnitP b s (takeR 44 (s.drop q)) W)) := Lib.hid (fun q W h hq => by
    have ht := take_any b s q 44 W h hq (by omega)
    rw [show (((44 : UInt8).toNat : Nat) : Int) = 44 from rfl] at ht
    exact ht)
  have HWs := Lib.hid (fun q (hq : q ≤ s.length) => ws_at (s := s) (p := q) hq)
  have c1 := h.c1
  have f1 := h.f 1
  have hpi : (p : Int) ≤ 1000000000 := by omega
  have HR1 : Hid (RdB (w.setCell ⟨b, 1, none⟩ (.int .i64 ((p : Int) + 1))) b s (p + 1)) := Lib.hid (by have := h.set (p + 1); simpa using this)
  have HG1 : Hid (GX [b] w0 (w.setCell ⟨b, 1, none⟩ (.int .i64 ((p : Int) + 1)))) := Lib.hid (hg.set (by simp) _ _)
  have HI1 : Hid (I [] (w.setCell ⟨b, 1, none⟩ (.int .i64 ((p : Int) + 1)))) := Lib.hid (hI _ _ _ hi ((GX.refl [b] w).set (by simp) _ _))
  have hcl : (c.toNat : Int) < 256 := by have := c.toNat_lt; omega
  clear h hg hi hN hone hI h1 h2 hc0
  go_enter Tryz.func60, Tryz.ntmps60
  go_wp2_with fail
  refine (HBl.out _ _ HR1.out (by omega)).mono ?_
  rintro e w1 ⟨rfl, hR2, hG2⟩
  have HR2 := Lib.hid hR2
  have HG2 := Lib.hid (HG1.out.trans hG2)
  have HI2 := Lib.hid (HI.out _ _ _ HI1.out hG2)
  obtain ⟨k1, k2, k3⟩ := HWs.out (p + 1) (by omega)
  obtain ⟨q, hq⟩ : ∃ q, wsAt s (p + 1) = q := ⟨_, rfl⟩
  rw [hq] at HR2 k1 k3
  have hN2 : N = if hdB (s.drop q) = c then .ok [] (s.drop q).tail else itemsR one c ((s.drop (p + 1)).length + 1) (s.drop q) [] := by rw [HN.out, k1]; rfl
  have HN2 := Lib.hid hN2
  have HPk2 := Lib.hid (HPk.out q w1 HR2.out k3)
  obtain ⟨u, hu⟩ : ∃ u, hdB (s.drop q) = u := ⟨_, rfl⟩
  rw [hu] at HPk2 HN2
  have HU := Lib.hid hu
  have hql : q ≥ p + 1 := by omega
  clear hR2 hG2 k1 k2 hq hN2 hu c1 f1
  go_wp2_with fail
  refine HPk2.out.mono ?_
  rintro e w2 ⟨rfl, hq2⟩
  have HR3 := Lib.hid (HR2.out.q hq2)
  have HG3 := Lib.hid (HG2.out.reader hq2)
  have HI3 := Lib.hid (HI.out _ _ _ HI2.out (GX.q hq2))
  clear hq2
  by_cases hc : u = c
  · have g1 : (((u.toNat : Int)) == (c.toNat : Int)) = true := eq_byte hc
    have hlt : q < s.length := lt_of_hd (by rw [HU.out, hc]; exact HC0.out)
    have hN3 := HN2.out
    rw [if_pos hc, drop_tail hlt] at hN3
    have HX : Hid (OneP b s w0 I N (.returned (.tuple #[])) (w2.setCell ⟨b, 1, none⟩ (.int .i64 ((q : Int) + 1)))) := Lib.hid (by
      rw [hN3]
      exact ⟨rfl, ⟨q + 1, hlt, rfl, by have := HR3.out.set (q + 1); simpa using this⟩, HG3.out.set (by simp) _ _, HI.out _ _ _ HI3.out ((GX.refl [b] w2).set (by simp) _ _)⟩)
    have c1 := HR3.out.c1
    have f1 := HR3.out.f 1
    clear hc hN3
    go_wp2_with fail
    go_end0
    exact HX.out
  · have g1 : (((u.toNat : Int)) == (c.toNat : Int)) = false := ne_byte hc
    have hN3 := HN2.out
    rw [if_neg hc] at hN3
    have hlen : (s.drop (p + 1)).length = s.length - (p + 1) := List.length_drop
    rw [hlen] at hN3
    have HS : Hid (RowSt one c b s N I (s.length - (p + 1) + 1) w0 w2) := Lib.hid ⟨q, [], k3, HR3.out, HG3.out, HI3.out, by simp, hN3, by omega⟩
    clear hc hN3 hlen
    go_wp2_with fail
    go_loopg [26] (s.length - (p + 1) + 1) (fun gk s26 wx => Hid (RowSt one c b s N I gk w0 wx))
    case atStart => exact HS
    case round =>
      have HST := hrel
      clear hrel
      rename World => wa
      obtain ⟨qa, acc, hqa, hR, hG, hIa, hal, hNN, hgk⟩ := HST.out
      obtain ⟨g', rfl⟩ : ∃ g', gk = g' + 1 := ⟨gk - 1, by omega⟩
      have hone := HOne.out acc qa wa hal hIa hR hG hqa
      have hgd := H1.out (s.drop qa)
      have het := H2.out (s.drop qa)
      have hN4 : N = (one (s.drop qa)).bind fun v r => if hdB (skipJ r) = c then .ok (acc ++ [v]) (skipJ r).tail
        else (takeR 44 (skipJ r)).bind fun _ u => itemsR one c g' (skipJ u) (acc ++ [v]) := hNN
      obtain ⟨T, hT⟩ : ∃ T, one (s.drop qa) = T := ⟨_, rfl⟩
      rw [hT] at hone hgd het hN4
      have HOn := Lib.hid hone
      have HGd := Lib.hid hgd
      have HEt := Lib.hid het
      have HN4 := Lib.hid hN4
      have HGK := Lib.hid hgk
      clear hR hG hIa hNN hone hgd het hT hN4 hgk
      go_wp2_with fail
      refine HOn.out.mono ?_
      intro e w3 hU
      have HU3 := Lib.hid hU
      clear hU HOn
      rcases T with ⟨v, r⟩ | ⟨ce, n⟩
      rotate_left
      · obtain ⟨⟨bf, rfl, hf⟩, hg⟩ := HU3.out
        have HX : Hid (OneP b s w0 I N (.panicked [{ v := .iface 32 (.pointer (some ⟨bf, 0, none⟩)), recovered := false }]) w3) := Lib.hid (by
          rw [HN4.out]
          exact ⟨⟨bf, rfl, hf⟩, hg⟩)
        clear hf hg
        go_wp2_with fail
        exact ⟨rfl, HX.out⟩
      obtain ⟨rfl, ⟨q1, m1, m2, m3⟩, m4, m5⟩ := HU3.out
      have het2 := HEt.out v r rfl
      rw [← m2, List.length_drop, List.length_drop] at het2
      have HR4 := Lib.hid m3
      have HG4 := Lib.hid m4
      have HI4 := Lib.hid m5
      have HM2 := Lib.hid m2
      obtain ⟨k1, k2, k3b⟩ := HWs.out q1 m1
      obtain ⟨q2, hq2⟩ : ∃ q2, wsAt s q1 = q2 := ⟨_, rfl⟩
      rw [hq2] at k1 k2 k3b
      have HB4 := Lib.hid (HBl.out q1 w3 HR4.out m1)
      rw [hq2] at HB4
      have HK1 := Lib.hid k1
      clear m2 m3 m4 m5 k1 hq2 HU3
      go_wp2_with fail
      refine HB4.out.mono ?_
      rintro e w4 ⟨rfl, hR5, hG5⟩
      have HR5 := Lib.hid hR5
      have HG5 := Lib.hid (HG4.out.trans hG5)
      have HI5 := Lib.hid (HI.out _ _ _ HI4.out hG5)
      have HPk5 := Lib.hid (HPk.out q2 w4 hR5 k3b)
      obtain ⟨x, hx⟩ : ∃ x, hdB (s.drop q2) = x := ⟨_, rfl⟩
      rw [hx] at HPk5
      have HX5 := Lib.hid hx
      have HN5 : Hid (N = if x = c then .ok (acc ++ [v]) (s.drop q2).tail else (takeR 44 (s.drop q2)).bind fun _ u => itemsR one c g' (skipJ u) (acc ++ [v])) := Lib.hid (by
        rw [HN4.out, ← hx, HK1.out, HM2.out]; rfl)
      clear hR5 hG5 hx HB4
      go_wp2_with fail
      refine HPk5.out.mono ?_
      rintro e w5 ⟨rfl, hq5⟩
      have HR6 := Lib.hid (HR5.out.q hq5)
      have HG6 := Lib.hid (HG5.out.reader hq5)
      have HI6 := Lib.hid (HI.out _ _ _ HI5.out (GX.q hq5))
      clear hq5 HPk5
      by_cases hc : x = c
      · have g1 : (((x.toNat : Int)) == (c.toNat : Int)) = true := eq_byte hc
        have hlt : q2 < s.length := lt_of_hd (by rw [HX5.out, hc]; exact HC0.out)
        have hN3 := HN5.out
        rw [if_pos hc, drop_tail hlt] at hN3
        have HX : Hid (OneP b s w0 I N (.returned (.tuple #[])) (w5.setCell ⟨b, 1, none⟩ (.int .i64 ((q2 : Int) + 1)))) := Lib.hid (by
          rw [hN3]
          exact ⟨rfl, ⟨q2 + 1, hlt, rfl, by have := HR6.out.set (q2 + 1); simpa using this⟩, HG6.out.set (by simp) _ _, HI.out _ _ _ HI6.out ((GX.refl [b] w5).set (by simp) _ _)⟩)
        have c1 := HR6.out.c1
        have f1 := HR6.out.f 1
        have hq2i : (q2 : Int) ≤ 1000000000 := by omega
        clear hc hN3
        go_wp2_with fail
        go_end0
        exact HX.out
      · have g1 : (((x.toNat : Int)) == (c.toNat : Int)) = false := ne_byte hc
        have hN3 := HN5.out
        rw [if_neg hc] at hN3
        have htk := HTk.out q2 w5 HR6.out k3b
        have htd := takeR_good 44 (s.drop q2)
        obtain ⟨T, hT⟩ : ∃ T, takeR 44 (s.drop q2) = T := ⟨_, rfl⟩
        rw [hT] at htk htd hN3
        have HTk2 := Lib.hid htk
        have HTd := Lib.hid htd
        have HN6 := Lib.hid hN3
        clear hc hN3 htk htd hT
        go_wp2_with fail
        refine HTk2.out.mono ?_
        intro e w6 hU
        have HU6 := Lib.hid hU
        clear hU HTk2
        rcases T with ⟨y, r6⟩ | ⟨ce, n⟩
        rotate_left
        · obtain ⟨⟨bf, rfl, hf⟩, hg⟩ := HU6.out
          have HX : Hid (OneP b s w0 I N (.panicked [{ v := .iface 32 (.pointer (some ⟨bf, 0, none⟩)), recovered := false }]) w6) := Lib.hid (by
            rw [HN6.out]
            exact ⟨⟨bf, rfl, hf⟩, HG6.out.trans hg⟩)
          clear hf hg
          go_wp2_with fail
          exact ⟨rfl, HX.out⟩
        obtain ⟨rfl, ⟨q6, m1b, m2, m3⟩, m4⟩ := HU6.out
        have hs6 := List.IsSuffix.length_le HTd.out
        rw [← m2, List.length_drop, List.length_drop] at hs6
        have HR7 := Lib.hid m3
        have HG7 := Lib.hid (HG6.out.trans m4)
        have HI7 := Lib.hid (HI.out _ _ _ HI6.out m4)
        have HM6 := Lib.hid m2
        have HB7 := Lib.hid (HBl.out q6 w6 HR7.out m1b)
        obtain ⟨k1, k2b, k3c⟩ := HWs.out q6 m1b
        have HK6 := Lib.hid k1
        clear m2 m3 m4 k1 HU6
        go_wp2_with fail
        refine HB7.out.mono ?_
        rintro e w7 ⟨rfl, hR8, hG8⟩
        have HX : Hid (RowSt one c b s N I g' w0 w7) := Lib.hid (by
          have hg := HGK.out
          refine ⟨wsAt s q6, acc ++ [v], k3c, hR8, HG7.out.trans hG8, HI.out _ _ _ HI7.out hG8, by rw [List.length_append, List.length_singleton]; omega, ?_, by omega⟩
          rw [HN6.out, HK6.out, HM6.out]; rfl)
        clear hR8 hG8 HB7
        go_wp2_with fail
        go_roundg g'
        case measure => omega
        case rel => exact HX
end Go.Proofs.YtlhhiiemojhjdaaGreatDoor
set_option linter.unusedVariables false
namespace Go.Proofs.YtlhhiiemojhjdaaGreatDoor
open Go Go.RowKit
def pureOp : Op → Bool
  | .move _ | .assign _ | .nilCheck _ | .pick .. | .build .. | .load .. | .binOp .. | .unOp .. | .convert .. | .slice .. | .fieldAddr .. | .field .. | .indexAddr .. | .index .. | .extract .. => true
  | .call c => (match c.callee with | .builtin .len => true | _ => false)
  | _ => false
theorem pure_run {P : Program} {ρ : Operand → Value} {o : Oper} {w w' : World} {n : Next} (hp : pureOp o.op = true) (h : (execOp ρ o).run P w = .ok n w') : ∃ v, n = .value v := by
  have key : ∀ s : Sem Value, (do pure (Next.value (← s)) : Sem Next).run P w = .ok n w' → ∃ v, n = .value v := by
    intro s hs
    simp only [Sem.run_bind, Sem.run_pure] at hs
    cases hq : s.run P w with
    | ok x u => rw [hq] at hs; simp [Result.andThen] at hs; exact ⟨x, hs.1.symm⟩
    | halt x u => rw [hq] at hs; simp [Result.andThen] at hs
  obtain ⟨dst, op, type, pos, after, guard⟩ := o
  cases op <;> simp only [pureOp, Bool.false_eq_true] at hp <;> unfold execOp at h <;> simp only at h
  case move x => simp only [Sem.run_pure] at h; cases h; exact ⟨_, rfl⟩
  case assign x => simp only [Sem.run_pure] at h; cases h; exact ⟨_, rfl⟩
  case pick c a b =>
    simp only [Sem.run_bind, Sem.run_pure] at h
    cases hq : (asBool (ρ c)).run P w with
    | ok x u => rw [hq] at h; simp [Result.andThen] at h; exact ⟨_, h.1.symm⟩
    | halt x u => rw [hq] at h; simp [Result.andThen] at h
  case call c =>
    obtain ⟨ce, ar, ts⟩ := c
    cases ce with
    | builtin b =>
      cases b <;> simp only [Bool.false_eq_true] at hp
      simp only [resolve, invoke, Sem.run_bind, Sem.run_pure, Result.andThen, builtin] at h
      cases hq : (Builtin.len_ ts type (Array.map ρ ar)).run P w with
      | ok x u => rw [hq] at h; simp at h; exact ⟨_, h.1.symm⟩
      | halt x u => rw [hq] at h; simp at h
    | invoke x y => simp only [Bool.false_eq_true] at hp
    | value x => simp only [Bool.false_eq_true] at hp
  case nilCheck x =>
    have kb : ∀ {α : Type} (s : Sem α) (f : α → Sem Next) (w : World), (∀ a w1, (f a).run P w1 = .ok n w' → ∃ v, n = .value v) → (s >>= f).run P w = .ok n w' → ∃ v, n = .value v := fun s f w hf h => by
      rw [Sem.run_bind] at h
      cases hq : s.run P w with
      | ok a w1 => rw [hq] at h; exact hf a w1 h
      | halt y w1 => rw [hq] at h; cases h
    have kp : ∀ (v : Value) (w : World), (pure (Next.value v) : Sem Next).run P w = .ok n w' → ∃ v, n = .value v := fun v w h => by
      simp only [Sem.run_pure] at h; cases h; exact ⟨_, rfl⟩
    have kn : (runtimePanic .nilDeref : Sem Next).run P w = .ok n w' → ∃ v, n = .value v := fun h => by
      unfold runtimePanic at h
      refine kb _ _ _ (fun a w1 h => ?_) h
      simp [goPanic] at h
    split at h
    · exact kn h
    · exact kn h
    · exact kn h
    · split at h
      · exact kn h
      · refine kb _ _ _ (fun a w1 h => kb _ _ _ (fun b w2 h => ?_) h) h
        split at h
        · exact kb _ _ _ (fun _ w3 h => kp _ _ h) h
        · exact kp _ _ h
      · exact kp _ _ h
    · exact kp _ _ h
  all_goals exact key _ h
def pureB (md : Region.Mode) (ops : Array Oper) : List Nat → Array Bool → Bool
  | [], _ => true
  | k :: r, ls => (match ops[k]? with | some o => pureOp o.op | none => false) && Region.free md ops ls k && (Region.ready md ops ls).contains k && pureB md ops r (ls.setIfInBounds k true)
def markB : List Nat → Array Bool → Array Bool
  | [], ls => ls
  | k :: r, ls => markB r (ls.setIfInBounds k true)
section
variable {P : Program} {ops : Array Oper} {R : Exit → Act → World → Prop}
theorem wpQuiet_mono {C : World → Prop} {K K' : Act → Prop} (hk : ∀ a, K a → K' a) (l : List Oper) : ∀ a, wpQuiet P ops C K l a → wpQuiet P ops C K' l a := by
  induction l with
  | nil => intro a h; exact hk a h
  | cons o r ih =>
    intro a h
    unfold wpQuiet at h ⊢
    split
    · next hw => rw [if_pos hw] at h; exact Oper.quiet_mono ih h
    · next hw => rw [if_neg hw] at h; exact ih _ h
end
end Go.Proofs.YtlhhiiemojhjdaaGreatDoor
set_option linter.unusedVariables false
namespace Go.Proofs.YtlhhiiemojhjdaaGreatDoor
open Go Go.RowKit
section
variable {P : Program} {ops : Array Oper} {R : Exit → Act → World → Prop} {C : World → Prop}
structure MixInv (ops : Array Oper) (ls1 : Array Bool) (H : Nat → Prop) (ls : Array Bool) : Prop where
  size : ls.size = ops.size
  closed : ∀ j oj, ops[j]? = some oj → ls.getD j false = true → ∀ e ∈ oj.after, Region.binds .any e = true → ls.getD e.on false = true
  rest : ∀ t, ¬ H t → ls1.getD t true = false → ls.getD t true = false
  more : ∀ t, ls1.getD t true = true → ls.getD t true = true
theorem MixInv.set {ls1 : Array Bool} {H : Nat → Prop} {i : Nat} {ls : Array Bool} (inv : MixInv ops ls1 H ls) (hi : i ∈ Region.ready .any ops ls) (hin : H i) : MixInv ops ls1 H (ls.setIfInBounds i true) := by
  obtain ⟨_, oi, hoi, hall⟩ := mem_ready.1 hi
  refine ⟨by simp [inv.size], fun j oj hj hl e he hb => ?_, fun t ht ht' => ?_, fun t ht => ?_⟩
  · by_cases hij : i = j
    · subst hij
      have : oj = oi := Option.some.inj (hj.symm.trans hoi)
      subst this
      exact getD_set_true (hall e he hb)
    · rw [getD_set_ne false hij] at hl
      exact getD_set_true (inv.closed j oj hj hl e he hb)
  · have : i ≠ t := fun h => ht (h ▸ hin)
    rw [getD_set_ne true this]; exact inv.rest t ht ht'
  · by_cases hij : i = t
    · subst hij
      by_cases hs : i < ls.size
      · simp [hs]
      · simp [hs]
    · rw [getD_set_ne true hij]; exact inv.more t ht
end
theorem wpQuiet_load_row {P : Program} {ops : Array Oper} {C : World → Prop} {K : Act → Prop} {rest : List Oper} {o : Oper} {a : Act} (hgd : o.guard = none) (ty : TypeId) (x : Operand) (ho : o.op = .load ty x)
    (g : Nat) (hx : a.eval x = .pointer (some ⟨g, 0, none⟩)) (t : TypeId) (cs : Array Value) (fr : Nat × Nat) (d : TypeDesc) (hg : ∀ w, C w → w.heap[g]? = some (.cells cs t fr))
    (hu : P.underlying ty = some d) (hd : (match d with | .struct _ | .array _ _ => true | _ => false) = true) (hi : (P.info? ty).map (·.size) = some cs.size)
    (h : wpQuiet P ops C K rest (a.put o.dst (.agg cs))) : wpQuiet P ops C K (o :: rest) a := by
  have hw : Region.wanted o (yielded ops a.tmps) = true := by simp [Region.wanted, hgd]
  unfold wpQuiet
  rw [if_pos hw]
  refine ⟨_, fun w hC => ?_, h⟩
  unfold Oper.quietAt execOp
  simp only [ho, hx, Instr.loadAt, Instr.sureAddr, Sem.run_bind, Sem.run_pure, Result.andThen_ok, run_loadVar_row w g t ty cs fr d (hg w hC) hu hd hi]
  exact ⟨rfl, rfl⟩
end Go.Proofs.YtlhhiiemojhjdaaGreatDoor
set_option linter.unusedVariables false
namespace Go.Proofs.YtlhhiiemojhjdaaGreatDoor
open Go Go.RowKit
section
variable {P : Program} {ops : Array Oper} {Q : Exit → Act → World → Prop} {l n : Nat}
end
end Go.Proofs.YtlhhiiemojhjdaaGreatDoor
set_option linter.unusedVariables false
namespace Go.Proofs.YtlhhiiemojhjdaaGreatDoor
open Go Go.RowKit
section
variable {P : Program} {ops : Array Oper} {R : Exit → Act → World → Prop} {S : World → Prop}
theorem upon_then {o : Oper} {a : Act} {K : Act → World → Prop} (r : Result Next) (h : o.upon P a (wpList P ops (Exit.then K R) []) (Exit.then K R) r) : o.upon P a K R r := by
  cases r with
  | ok x w' =>
    cases x with
    | value v => exact h
    | skip => exact h
    | defer d => exact h
    | enter f args =>
      refine Calls.mono h fun e w'' he => ?_
      cases e with
      | returned u => exact he
      | panicked c => exact he
      | outgrown => exact he
    | row r args => exact Rows.mono h fun u w'' he => he
    | _ => first | exact h.elim | exact h
  | halt x w' =>
    cases x <;> exact h
theorem wpOp_of_one {i : Nat} {o : Oper} {a : Act} {w : World} {K : Act → World → Prop} (ho : ops[i]? = some o) (h : wpList P ops (Exit.then K R) [o] a w) : wpOp P ops R i K a w := by
  unfold wpOp
  simp only [ho]
  unfold wpList at h
  split at h
  · next hw =>
    rw [if_pos hw]
    rcases h with h | ⟨h1, h2⟩
    · exact .inl (upon_then _ h)
    · exact .inr ⟨h1, h2⟩
  · next hw =>
    rw [if_neg hw]
    exact h
theorem any_headS (hsel : Region.noSelect ops = true) (hQ : ∀ c a d v w, R (.panic c) (Act.put a d v) w → R (.panic c) a w) (f : Nat) (w : World) (hS : S w) (hd : List Nat) : ∀ (ls : Array Bool) (a : Act), pureB .any ops hd ls = true →
    wpQuiet P ops S (fun a' => wpAnyH P .any ops R S f (markB hd ls) a' w) (hd.map (ops.getD · default)) a → wpAnyH P .any ops R S (hd.length + f) ls a w := by
  induction hd with
  | nil => intro ls a hB h; rw [List.length_nil, Nat.zero_add]; exact h
  | cons k r ih =>
    intro ls a hB h
    simp only [pureB, Bool.and_eq_true] at hB
    cases ho : ops[k]? with
    | none => rw [ho] at hB; simp at hB
    | some o =>
      rw [ho] at hB
      have hk : ops.getD k default = o := by simp [Array.getD_eq_getD_getElem?, ho]
      rw [List.map_cons, hk] at h
      have h2 : if Region.wanted o (yielded ops a.tmps) then o.quiet P a S (wpQuiet P ops S (fun a' => wpAnyH P .any ops R S f (markB (k :: r) ls) a' w) (r.map (ops.getD · default)))
        else wpQuiet P ops S (fun a' => wpAnyH P .any ops R S f (markB (k :: r) ls) a' w) (r.map (ops.getD · default)) (a.put o.dst undef) := h
      rw [List.length_cons, Nat.add_right_comm]
      split at h2
      · next hw =>
        obtain ⟨v, hv, hn⟩ := h2
        refine wpAnyH_take ho hsel hB.1.1.2 hB.1.2 (fun c a w => hQ c a _ _ w) (.inl ⟨hw, fun w' hw' => ?_⟩) hS (ih _ _ hB.2 hn)
        have h3 := hv w' hw'
        unfold Oper.quietAt at h3
        cases hr : (execOp a.eval o).run P w' with
        | halt x u => rw [hr] at h3; simp only [Oper.quietUpon] at h3
        | ok n u =>
          obtain ⟨x, rfl⟩ := pure_run hB.1.1.1 hr
          rw [hr] at h3
          simp only [Oper.quietUpon] at h3
          rw [h3.1, h3.2]
      · next hw =>
        exact wpAnyH_take ho hsel hB.1.1.2 hB.1.2 (fun c a w => hQ c a _ _ w) (.inr ⟨by simpa using hw, rfl⟩) hS (ih _ _ hB.2 h2)
end
section
variable {P : Program} {ops : Array Oper} {R : Exit → Act → World → Prop} {S : World → Prop}
def wpListK (P : Program) (ops : Array Oper) (R : Exit → Act → World → Prop) (S : World → Prop) (E : Act → World → Prop) : List Oper → Act → World → Prop
  | [], a, w => E a w
  | o :: r, a, w => ∀ K : Act → World → Prop, Hid (∀ a' w', S w' → wpListK P ops R S E r a' w' → K a' w') → wpList P ops (Exit.then K R) [o] a w
def forcedB (ops : Array Oper) : List Nat → Array Bool → Bool
  | [], _ => true
  | k :: r, ls => decide (Region.ready .any ops ls = [k]) && (ops[k]?).isSome && forcedB ops r (ls.setIfInBounds k true)
theorem any_chain (f : Nat) (tl : List Nat) : ∀ (ls : Array Bool) (a : Act) (w : World) (E : Act → World → Prop), S w → forcedB ops tl ls = true → (∀ a w, S w → E a w → wpAnyH P .any ops R S f (markB tl ls) a w) →
    wpListK P ops R S E (tl.map (ops.getD · default)) a w → wpAnyH P .any ops R S (tl.length + f) ls a w := by
  induction tl with
  | nil => intro ls a w E hS hB hE h; rw [List.length_nil, Nat.zero_add]; exact hE a w hS h
  | cons k r ih =>
    intro ls a w E hS hB hE h
    simp only [forcedB, Bool.and_eq_true, decide_eq_true_eq] at hB
    rw [List.length_cons, Nat.add_right_comm]
    refine wpAnyH_all hB.1.1 (by simp) fun i hi => ?_
    have e : i = k := by simpa using hi
    subst e
    obtain ⟨o, ho⟩ := Option.isSome_iff_exists.1 hB.1.2
    have hk : ops.getD i default = o := by simp [Array.getD_eq_getD_getElem?, ho]
    rw [List.map_cons, hk] at h
    exact wpOp_of_one ho (h _ (fun a' w' hs h' => ⟨hs, ih _ a' w' E hs hB.2 hE h'⟩))
def wpPlan (P : Program) (ops : Array Oper) (R : Exit → Act → World → Prop) (S : World → Prop) : List (List Nat × List Nat) → Act → World → Prop
  | [], a, w => R .normal a w
  | (hd, tl) :: ps, a, w => wpQuiet P ops S (fun a' => wpListK P ops R S (wpPlan P ops R S ps) (tl.map (ops.getD · default)) a' w) (hd.map (ops.getD · default)) a
def planB (ops : Array Oper) : List (List Nat × List Nat) → Array Bool → Bool
  | [], ls => (Region.ready .any ops ls).isEmpty
  | (hd, tl) :: ps, ls => pureB .any ops hd ls && forcedB ops tl (markB hd ls) && planB ops ps (markB tl (markB hd ls))
def planN : List (List Nat × List Nat) → Nat
  | [] => 0
  | (hd, tl) :: ps => hd.length + (tl.length + planN ps)
theorem any_plan (hsel : Region.noSelect ops = true) (hQ : ∀ c a d v w, R (.panic c) (Act.put a d v) w → R (.panic c) a w) (ps : List (List Nat × List Nat)) : ∀ (ls : Array Bool) (a : Act) (w : World), S w → planB ops ps ls = true →
    wpPlan P ops R S ps a w → wpAnyH P .any ops R S (planN ps) ls a w := by
  induction ps with
  | nil => intro ls a w hS hB h; exact ⟨by simpa [planB] using hB, h⟩
  | cons p ps ih =>
    obtain ⟨hd, tl⟩ := p
    intro ls a w hS hB h
    simp only [planB, Bool.and_eq_true] at hB
    refine any_headS hsel hQ _ w hS hd ls a hB.1.1 ?_
    exact wpQuiet_mono (fun a' h' => any_chain _ tl _ a' w _ hS hB.1.2 (fun a w hs he => ih _ a w hs hB.2 he) h') _ _ h
end
end Go.Proofs.YtlhhiiemojhjdaaGreatDoor
set_option linter.unusedVariables false
namespace Go.Proofs.YtlhhiiemojhjdaaGreatDoor
open Go Go.RowKit
section
variable {P : Program} {ops : Array Oper} {R : Exit → Act → World → Prop} {S : World → Prop}
def wpAnyZ (P : Program) (ops : Array Oper) (R : Exit → Act → World → Prop) (S : World → Prop) (zs : List Nat) : Nat → Array Bool → Act → World → Prop
  | 0, ls, a, w => Region.ready .any ops ls = [] ∧ R .normal a w
  | f + 1, ls, a, w => (Region.ready .any ops ls = [] → R .normal a w) ∧ ∀ i ∈ Region.ready .any ops ls, wpOp P ops R i (fun a' w' => if i ∈ zs then wpAny P .any ops R f (ls.setIfInBounds i true) a' w' else S w' ∧ wpAnyZ P ops R S zs f (ls.setIfInBounds i true) a' w') a w
theorem wpAny_of_Z {zs : List Nat} : ∀ (f : Nat) (ls : Array Bool) (a : Act) (w : World), wpAnyZ P ops R S zs f ls a w → wpAny P .any ops R f ls a w
  | 0, _, _, _, h => h
  | f + 1, ls, _, _, h => ⟨h.1, fun i hi => wpOp_mono (fun a' w' h' => by
      by_cases e : i ∈ zs
      · rw [if_pos e] at h'; exact h'
      · rw [if_neg e] at h'; exact wpAny_of_Z f _ a' w' h'.2) (h.2 i hi)⟩
structure ClosedL (ops : Array Oper) (ls : Array Bool) : Prop where
  size : ls.size = ops.size
  closed : ∀ j oj, ops[j]? = some oj → ls.getD j false = true → ∀ e ∈ oj.after, Region.binds .any e = true → ls.getD e.on false = true
theorem ClosedL.set {ls : Array Bool} {i : Nat} (inv : ClosedL ops ls) (hi : i ∈ Region.ready .any ops ls) : ClosedL ops (ls.setIfInBounds i true) := by
  obtain ⟨_, oi, hoi, hall⟩ := mem_ready.1 hi
  refine ⟨by simp [inv.size], fun j oj hj hl e he hb => ?_⟩
  by_cases hij : i = j
  · subst hij
    have : oj = oi := Option.some.inj (hj.symm.trans hoi)
    subst this
    exact getD_set_true (hall e he hb)
  · rw [getD_set_ne false hij] at hl
    exact getD_set_true (inv.closed j oj hj hl e he hb)
theorem yields_all {o : Oper} {v : Value} {a : Act} (h : YieldsIf P ops (fun _ => True) o v a) : Yields P ops o v a := h.imp (fun ⟨hw, hv⟩ => ⟨hw, fun w => hv w trivial⟩) id
theorem wpAnyZ_first {zs : List Nat} {i : Nat} {oi : Oper} {v : Value} {T : World → Prop} (hi : ops[i]? = some oi) (hsel : ∀ (j : Nat) (o : Oper) cs b, ops[j]? = some o → o.op ≠ .select cs b)
    (hQ : ∀ c a w, R (.panic c) (a.put oi.dst v) w → R (.panic c) a w) (hiz : i ∉ zs) (hT : ∀ w, S w → T w) (hz : (∀ ls, ClosedL ops ls → ls.getD i true = false → ∀ z ∈ zs, z ∉ Region.ready .any ops ls) ∨ ∀ w, T w) :
    ∀ (fuel : Nat) (ls : Array Bool) (a : Act) (w : World), ClosedL ops ls →
      (∀ j oj, ops[j]? = some oj → j ≠ i → ls.getD j true = false → (∀ e ∈ oj.after, Region.binds .any e = true → e.on ≠ i) → oi.apart ops oj = true) →
      i ∈ Region.ready .any ops ls → YieldsIf P ops T oi v a → S w →
      wpAnyZ P ops R S zs fuel (ls.setIfInBounds i true) (a.put oi.dst v) w → wpAnyZ P ops R S zs (fuel + 1) ls a w := by
  intro fuel
  induction fuel with
  | zero =>
    intro ls a w inv _ hr hy hS H
    refine ⟨fun h => (by rw [h] at hr; cases hr), fun j hj => ?_⟩
    by_cases hji : j = i
    · subst hji; exact hy.wpOp hi (hT w hS) (by rw [if_neg hiz]; exact ⟨hS, H⟩)
    · have := ready_mono hj hji
      rw [H.1] at this
      cases this
  | succ fuel ih =>
    intro ls a w inv hfree hr hy hS H
    have hun := (mem_ready.1 hr).1
    refine ⟨fun h => (by rw [h] at hr; cases hr), fun j hj => ?_⟩
    by_cases hji : j = i
    · subst hji; exact hy.wpOp hi (hT w hS) (by rw [if_neg hiz]; exact ⟨hS, H⟩)
    · have h1 := H.2 j (ready_mono hj hji)
      obtain ⟨hjun, oj, hoj, hall⟩ := mem_ready.1 hj
      have hnot : ∀ e ∈ oj.after, Region.binds .any e = true → e.on ≠ i := fun e he hb heq => by
        have h2 := hall e he hb
        rw [heq, getD_both hun] at h2
        cases h2
      have h2 := wpOp_putIf hoj (hfree j oj hoj hji hjun hnot) (fun cs b => hsel i oi cs b hi) (fun cs b => hsel j oj cs b hoj) hQ hy h1
      have hfree' : ∀ k ok, ops[k]? = some ok → k ≠ i → (ls.setIfInBounds j true).getD k true = false →
          (∀ e ∈ ok.after, Region.binds .any e = true → e.on ≠ i) → oi.apart ops ok = true := fun k ok hk hki hku hno => by
        refine hfree k ok hk hki ?_ hno
        by_cases hjk : j = k
        · subst hjk; exact hjun
        · rw [getD_set_ne true hjk] at hku; exact hku
      by_cases hjz : j ∈ zs
      · have hTT : ∀ w, T w := hz.elim (fun h => absurd hj (h ls inv hun j hjz)) id
        refine wpOp_mono (fun a' w' h3 => ?_) h2
        rw [if_pos hjz] at h3 ⊢
        refine wpAny_first hi hsel hQ _ _ _ _ hfree' (ready_mono hr (Ne.symm hji)) (yields_all ?_) ?_
        · exact h3.1.imp (fun ⟨hw, hv⟩ => ⟨hw, fun w _ => hv w (hTT w)⟩) id
        · rw [Array.setIfInBounds_comm _ _ hji]; exact h3.2
      · refine wpOp_mono (fun a' w' h3 => ?_) h2
        rw [if_neg hjz] at h3 ⊢
        refine ⟨h3.2.1, ih (ls.setIfInBounds j true) a' w' (inv.set hj) hfree' (ready_mono hr (Ne.symm hji)) h3.1 h3.2.1 ?_⟩
        rw [Array.setIfInBounds_comm _ _ hji]
        exact h3.2.2
theorem headZ {zs : List Nat} {T : World → Prop} (hsel : Region.noSelect ops = true) (hQ : ∀ c a d v w, R (.panic c) (Act.put a d v) w → R (.panic c) a w) (hT : ∀ w, S w → T w) (hd : List Nat) (hz : (∀ i ∈ hd, ∀ ls, ClosedL ops ls → ls.getD i true = false → ∀ z ∈ zs, z ∉ Region.ready .any ops ls) ∨ ∀ w, T w) (f : Nat) (w : World) (hS : S w) : ∀ (ls : Array Bool) (a : Act), ClosedL ops ls → (∀ i ∈ hd, i ∉ zs) → pureB .any ops hd ls = true →
    wpQuiet P ops T (fun a' => ClosedL ops (markB hd ls) → wpAnyZ P ops R S zs f (markB hd ls) a' w) (hd.map (ops.getD · default)) a → wpAnyZ P ops R S zs (hd.length + f) ls a w := by
  induction hd with
  | nil => intro ls a inv _ hB h; rw [List.length_nil, Nat.zero_add]; exact h inv
  | cons k r ih =>
    intro ls a inv hzn hB h
    simp only [pureB, Bool.and_eq_true] at hB
    have hzk : k ∉ zs := hzn k (by simp)
    have hzr : ∀ i ∈ r, i ∉ zs := fun i e => hzn i (List.mem_cons_of_mem _ e)
    have ih := ih (hz.imp (fun h i hi => h i (List.mem_cons_of_mem _ hi)) id)
    have hkz := hz.imp (fun h => h k (by simp)) id
    have hkr : k ∈ Region.ready .any ops ls := by simpa using hB.1.2
    cases ho : ops[k]? with
    | none => rw [ho] at hB; simp at hB
    | some o =>
      rw [ho] at hB
      have hk : ops.getD k default = o := by simp [Array.getD_eq_getD_getElem?, ho]
      rw [List.map_cons, hk] at h
      have h2 : if Region.wanted o (yielded ops a.tmps) then o.quiet P a T (wpQuiet P ops T (fun a' => ClosedL ops (markB (k :: r) ls) → wpAnyZ P ops R S zs f (markB (k :: r) ls) a' w) (r.map (ops.getD · default)))
        else wpQuiet P ops T (fun a' => ClosedL ops (markB (k :: r) ls) → wpAnyZ P ops R S zs f (markB (k :: r) ls) a' w) (r.map (ops.getD · default)) (a.put o.dst undef) := h
      rw [List.length_cons, Nat.add_right_comm]
      split at h2
      · next hw =>
        obtain ⟨v, hv, hn⟩ := h2
        refine wpAnyZ_first ho (Region.noSelect_spec hsel) (fun c a w => hQ c a _ _ w) hzk hT hkz _ ls a w inv (Region.free_spec ho hB.1.1.2) hkr (.inl ⟨hw, fun w' hw' => ?_⟩) hS (ih _ _ (inv.set hkr) hzr hB.2 hn)
        have h3 := hv w' hw'
        unfold Oper.quietAt at h3
        cases hr : (execOp a.eval o).run P w' with
        | halt x u => rw [hr] at h3; simp only [Oper.quietUpon] at h3
        | ok n u =>
          obtain ⟨x, rfl⟩ := pure_run hB.1.1.1 hr
          rw [hr] at h3
          simp only [Oper.quietUpon] at h3
          rw [h3.1, h3.2]
      · next hw =>
        exact wpAnyZ_first ho (Region.noSelect_spec hsel) (fun c a w => hQ c a _ _ w) hzk hT hkz _ ls a w inv (Region.free_spec ho hB.1.1.2) hkr (.inr ⟨by simpa using hw, rfl⟩) hS (ih _ _ (inv.set hkr) hzr hB.2 h2)
theorem chainZ {zs : List Nat} (f : Nat) (tl : List Nat) : ∀ (ls : Array Bool) (a : Act) (w : World) (E : Act → World → Prop), S w → ClosedL ops ls → (∀ i ∈ tl, i ∉ zs) → forcedB ops tl ls = true → (∀ a w, S w → ClosedL ops (markB tl ls) → E a w → wpAnyZ P ops R S zs f (markB tl ls) a w) →
    wpListK P ops R S E (tl.map (ops.getD · default)) a w → wpAnyZ P ops R S zs (tl.length + f) ls a w := by
  induction tl with
  | nil => intro ls a w E hS inv _ hB hE h; rw [List.length_nil, Nat.zero_add]; exact hE a w hS inv h
  | cons k r ih =>
    intro ls a w E hS inv hzn hB hE h
    simp only [forcedB, Bool.and_eq_true, decide_eq_true_eq] at hB
    rw [List.length_cons, Nat.add_right_comm]
    refine ⟨fun h0 => (by rw [hB.1.1] at h0; cases h0), fun i hi => ?_⟩
    have hi' := hi
    rw [hB.1.1] at hi
    have e : i = k := by simpa using hi
    subst e
    obtain ⟨o, ho⟩ := Option.isSome_iff_exists.1 hB.1.2
    have hk : ops.getD i default = o := by simp [Array.getD_eq_getD_getElem?, ho]
    rw [List.map_cons, hk] at h
    exact wpOp_of_one ho (h _ (fun a' w' hs h' => by rw [if_neg (hzn i (by simp))]; exact ⟨hs, ih _ a' w' E hs (inv.set hi') (fun j hj => hzn j (List.mem_cons_of_mem _ hj)) hB.2 hE h'⟩))
theorem not_mem_of {zs l : List Nat} (h : l.all (fun i => !zs.contains i) = true) : ∀ i ∈ l, i ∉ zs := fun i hi he => by
  have := List.all_eq_true.1 h i hi
  rw [List.contains_iff_mem.2 he] at this
  cases this
end
end Go.Proofs.YtlhhiiemojhjdaaGreatDoor
set_option linter.unusedVariables false
namespace Go.Proofs.YtlhhiiemojhjdaaGreatDoor
open Go Go.RowKit
section
variable {P : Program} {ops : Array Oper} {R : Exit → Act → World → Prop}
variable {w0 : World} {obj : Obj} {z : Nat} {oz : Oper} {zs : List Nat}
def sinkR (ops : Array Oper) (y : Nat) : List Nat → Bool
  | [] => true
  | i :: r => (r ++ [y]).any (fun j => Region.waitsFor .any ops j i) && sinkR ops y r
theorem sinkR_all {y : Nat} {ls : Array Bool} (inv : ClosedL ops ls) (hy : y ∈ Region.ready .any ops ls) (qs : List Nat) : (∀ i ∈ qs, i < ops.size) → sinkR ops y qs = true → ∀ i ∈ qs, ls.getD i true = true := by
  induction qs with
  | nil => intro _ _ i hi; cases hi
  | cons a r ih =>
    intro hsz hs i hi
    simp only [sinkR, Bool.and_eq_true] at hs
    have ihr := ih (fun i hi => hsz i (List.mem_cons_of_mem _ hi)) hs.2
    rcases List.mem_cons.1 hi with e | e
    · subst e
      obtain ⟨j, hj, hj2⟩ := List.any_eq_true.1 hs.1
      obtain ⟨oj, hoj, e, he, hb, hon⟩ := Region.waitsFor_spec hj2
      cases hun : ls.getD i true with
      | true => rfl
      | false =>
        exfalso
        rcases List.mem_append.1 hj with hjr | hjy
        · have hjl : ls.getD j false = true := by
            have h1 := ihr j hjr
            have hjs : j < ls.size := by rw [inv.size]; exact hsz j (List.mem_cons_of_mem _ hjr)
            simpa [hjs] using h1
          have h2 := inv.closed j oj hoj hjl e he hb
          rw [hon, getD_both hun] at h2
          cases h2
        · have : j = y := by simpa using hjy
          subst this
          obtain ⟨_, oz, hoz, hall⟩ := mem_ready.1 hy
          have : oj = oz := Option.some.inj (hoj.symm.trans hoz)
          subst this
          have h2 := hall e he hb
          rw [hon, getD_both hun] at h2
          cases h2
    · exact ihr i e
end
end Go.Proofs.YtlhhiiemojhjdaaGreatDoor
set_option linter.unusedVariables false
namespace Go.Proofs.YtlhhiiemojhjdaaGreatDoor
open Go Go.RowKit
section
variable {P : Program} {ops : Array Oper} {R : Exit → Act → World → Prop} {S : World → Prop}
def forkB (ops : Array Oper) (x y : Nat) (ls : Array Bool) : Bool :=
  decide (Region.ready .any ops ls = [x, y]) && (ops[x]?).isSome && (ops[y]?).isSome && decide (x ≠ y) && forcedB ops [y] (ls.setIfInBounds x true) && forcedB ops [x] (ls.setIfInBounds y true)
end
end Go.Proofs.YtlhhiiemojhjdaaGreatDoor
