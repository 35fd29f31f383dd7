/- Texts of this proof, laid into one: LaI, LaJ, LaK. -/
import Derived.Test.YtlhhiiemojhjdaaGreatDoorMt12
import Derived.Lib.AppendStr
set_option linter.unusedVariables false
set_option linter.unusedSimpArgs false
namespace Go.Proofs.YtlhhiiemojhjdaaGreatDoor
open Go Go.RowKit
def TyP (b : Nat) (s : Txt) (a : Int) (r : PR Txt) (w : World) (e : Ending) (w' : World) : Prop := GX [b] w w' ∧
  match r with
  | .ok x t => e = .returned (.string ⟨x.toArray⟩) ∧ ∃ q, q ≤ s.length ∧ s.drop q = t ∧ ScB w' b s q 0 a
  | .bad c n => (∃ x : Txt, e = .returned (.string ⟨x.toArray⟩)) ∧ ∃ q, q ≤ s.length ∧ c ≠ 0 ∧ ScB w' b s q (c : Int) ((s.length - n : Nat) : Int)
def OwnT (B : Nat) (w : World) (v : Value) (b : Txt) : Prop := w.ownsRow B 5 1 v b.length (b.map u8V)
theorem OwnT.nil (B : Nat) (w : World) : OwnT B w (.slice none 0 0) [] := ⟨rfl, .inl ⟨rfl, rfl⟩⟩
theorem OwnT.gx {B : Nat} {S : List Nat} {w w' : World} {v : Value} {b : Txt} (h : OwnT B w v b) (hg : GX S w w') (hS : ∀ k ∈ S, k < B) : OwnT B w' v b := by
  refine ⟨h.1, ?_⟩
  rcases h.2 with h2 | ⟨g, cap, cur, hv, h1, h2, h3⟩
  · exact .inl h2
  · exact .inr ⟨g, cap, cur, hv, h1, hg.heap (fun hm => by have := hS g hm; omega) h2, h3⟩
theorem OwnT.block {B : Nat} {w : World} {v : Value} {b : Txt} (h : OwnT B w v b) {k : Nat} (hk : v.ownBlock = some k) : B ≤ k := by
  rcases h.2 with ⟨rfl, _⟩ | ⟨g, cap, cur, rfl, h1, _⟩
  · cases hk
  · simp [Value.ownBlock] at hk; omega
theorem OwnT.form {B : Nat} {w : World} {v : Value} {b : Txt} (h : OwnT B w v b) : ∃ A c, v = .slice A b.length c := by
  obtain ⟨A, c, h1, _⟩ := row_cells h h.1
  exact ⟨A, c, h1⟩
theorem OwnT.conv {w0 w : World} {v : Value} {b : Txt} (h : OwnT w0.heap.size w v b) : (convert 104 9 v).run Tryz.prog w = .ok (.string ⟨b.toArray⟩) w := conv_b (OwnB.of_row h)
def TyS (w0 : World) (b : Nat) (s : Txt) (q : Nat) (c a : Int) (v : Value) (acc : Txt) (w : World) : Prop := OwnT w0.heap.size w v acc ∧ GX [b] w0 w ∧ ScB w b s q c a
theorem TyS.gx {w0 : World} {b : Nat} {s : Txt} {q : Nat} {c a : Int} {v : Value} {acc : Txt} {w : World} (h : TyS w0 b s q c a v acc w) {S : List Nat} {w' : World} (hb : b < w0.heap.size) (hg : w.grownBy w' v.ownBlock) {v' : Value} {acc' : Txt} (ho : OwnT w0.heap.size w' v' acc') : TyS w0 b s q c a v' acc' w' := by
  have hne : ∀ k, k < w0.heap.size → some k ≠ v.ownBlock := fun k hk e => by have := h.1.block e.symm; omega
  refine ⟨ho, ⟨hg.os.trans h.2.1.os, hg.tape.trans h.2.1.tape, hg.output.trans h.2.1.output, Nat.le_trans h.2.1.size hg.size, fun k hk hn => ?_⟩, ?_⟩
  · rw [hg.block k (Nat.lt_of_lt_of_le hk h.2.1.size) (hne k hk)]; exact h.2.1.block k hk hn
  · unfold ScB
    rw [hg.block b (lt_of_heap h.2.2) (hne b hb)]; exact h.2.2
theorem TyS.q {w0 : World} {b : Nat} {s : Txt} {q : Nat} {c a : Int} {v : Value} {acc : Txt} {w w' : World} (h : TyS w0 b s q c a v acc w) (hq : Q w w') : TyS w0 b s q c a v acc w' :=
  ⟨h.1.gx (GX.q (S := []) hq) (by simp), h.2.1.trans (GX.q hq), h.2.2.q hq⟩
theorem TyS.put {w0 : World} {b : Nat} {s : Txt} {q : Nat} {c a : Int} {v : Value} {acc : Txt} {w w' : World} (h : TyS w0 b s q c a v acc w) (hb : b < w0.heap.size) (hg : GX [b] w w') {q' : Nat} {c' a' : Int} (hs : ScB w' b s q' c' a') : TyS w0 b s q' c' a' v acc w' :=
  ⟨h.1.gx hg (by simp; exact hb), h.2.1.trans hg, hs⟩
theorem run_append_t (w0 W : World) (ty : TypeId) (b : Nat) (s : Txt) (q : Nat) (c a : Int) (v : Value) (acc x : Txt) (hb : b < w0.heap.size) (h : TyS w0 b s q c a v acc W) (hl : acc.length + x.length ≤ 140737488355328) :
    ∃ v' w', (Builtin.append_ #[104, 9] ty #[v, .string ⟨x.toArray⟩]).run Tryz.prog W = .ok v' w' ∧ TyS w0 b s q c a v' (acc ++ x) w' := by
  obtain ⟨i, hi, hz, hsz, hby⟩ := info_parts info_u8
  have hss : (ByteArray.mk x.toArray).size = x.length := rfl
  obtain ⟨v', w', hr, h2, h3, h4⟩ := Lib.run_append_own_string (P := Tryz.prog) W w0.heap.size 104 9 ty 5 i Tryz.underlying104 Tryz.underlying9 hi hz hsz hby v acc.length (acc.map u8V) h.1 ⟨x.toArray⟩ (by rw [hss]; unfold maxLen; omega) (by rw [hss]; omega) h.2.1.size
  refine ⟨v', w', hr, h.gx (S := []) hb h3 ?_⟩
  unfold OwnT
  rw [List.map_append, List.length_append]
  exact h2
theorem wpList_append_t {ops : Array Oper} {rest : List Oper} {o : Oper} {a : Act} {R : Exit → Act → World → Prop} (hgd : o.guard = none) (sl x : Operand)
    (ho : o.op = .call { callee := .builtin .append, args := #[sl, x], argTypes := #[104, 9] })
    (w0 W : World) (b : Nat) (s : Txt) (q : Nat) (c a' : Int) (v : Value) (acc y : Txt) (hb : b < w0.heap.size) (h : TyS w0 b s q c a' v acc W) (hl : acc.length + y.length ≤ 140737488355328)
    (hs : a.eval sl = v) (hx : a.eval x = .string ⟨y.toArray⟩)
    (hk : ∀ v' w', TyS w0 b s q c a' v' (acc ++ y) w' → wpList Tryz.prog ops R rest (a.put o.dst v') w') : wpList Tryz.prog ops R (o :: rest) a W := by
  refine wpList_plain hgd fun K hK => ?_
  obtain ⟨v', w', hr, h2⟩ := run_append_t w0 W o.type b s q c a' v acc y hb h hl
  unfold Oper.wp execOp
  simp only [ho, resolve, invoke, builtin, Sem.run_bind, Sem.run_pure, Result.andThen_ok, List.map_toArray, List.map_cons, List.map_nil, hs, hx, hr]
  exact hK _ _ (hk v' w' h2)
theorem take_at (s : Txt) (p : Nat) (x : UInt8) : takeR x (s.drop p) = if isB s p x = true then .ok () (s.drop (p + 1)) else .bad 54 (s.length - p) := by
  unfold isB
  by_cases h : p < s.length
  · rw [drop_at h, takeR]
    by_cases hx : gB s p = x
    · rw [if_pos hx, if_pos (by simp [h, hx])]
    · rw [if_neg hx, if_neg (by simp [hx])]
      congr 1; simp; omega
  · rw [List.drop_of_length_le (by omega), takeR, if_neg (by simp; omega)]
    congr 1; omega
theorem txt_step {s : Txt} {q : Nat} (hq : q < s.length) (n : Nat) (acc : Txt) : txtR (n + 1) (s.drop q) acc = if gB s q = 34 then .ok acc (s.drop (q + 1)) else if gB s q = 92 then (escR (s.drop q)).bind (fun c u => txtR n u (acc ++ c)) else if (gB s q).toNat < 32 ∨ utfN (s.drop q) = 0 then .bad 54 (s.length - q) else txtR n (s.drop (q + utfN (s.drop q))) (acc ++ sub s q (q + utfN (s.drop q))) := by
  have e : s.drop q = gB s q :: s.drop (q + 1) := drop_at hq
  have e1 : (s.drop (q + 1)).length + 1 = s.length - q := by simp; omega
  have e2 : (s.drop q).drop (utfN (s.drop q)) = s.drop (q + utfN (s.drop q)) := by rw [List.drop_drop]
  have e3 : (s.drop q).take (utfN (s.drop q)) = sub s q (q + utfN (s.drop q)) := by
    unfold sub
    rw [List.drop_take, Nat.add_sub_cancel_left]
  rw [← e2, ← e3, e, txtR, e1]
theorem utf_bound {s : Txt} {q : Nat} (h : utfN (s.drop q) ≠ 0) : q + utfN (s.drop q) ≤ s.length := by
  have := utf_cases h
  unfold UC at this
  rw [List.length_drop] at this
  omega
def TyI (w0 : World) (b : Nat) (s : Txt) (a : Int) (R : PR Txt) (n : Nat) (v : Value) (w : World) : Prop :=
  ∃ q acc c a', TyS w0 b s q c a' v acc w ∧ q ≤ s.length ∧ acc.length ≤ 4 * s.length ∧ (c = 0 → acc.length ≤ 4 * q) ∧ ((c = 0 ∧ a' = a ∧ ∃ n0, n0 ≤ n ∧ txtR n0 (s.drop q) acc = R ∧ s.length - q < n0) ∨ (∃ m k : Nat, R = .bad m k ∧ m ≠ 0 ∧ c = (m : Int) ∧ a' = ((s.length - k : Nat) : Int)))
theorem ty_bad {w0 : World} {b : Nat} {s : Txt} {a : Int} {R : PR Txt} {q : Nat} {v : Value} {acc : Txt} {w : World} {c a' : Int} {m k : Nat} (hR : R = .bad m k) (hm : m ≠ 0) (hc : c = (m : Int)) (ha : a' = ((s.length - k : Nat) : Int)) (h : TyS w0 b s q c a' v acc w) (hq : q ≤ s.length) : TyP b s a R w0 (.returned (.string ⟨acc.toArray⟩)) w := by
  subst hR hc ha
  exact ⟨h.2.1, ⟨acc, rfl⟩, q, hq, hm, h.2.2⟩
set_option maxRecDepth 100000 in
set_option maxHeartbeats 8000000 in
theorem rtext_any (b : Nat) (s : Txt) (p : Nat) (a : Int) (w : World) (h : ScB w b s p 0 a) (hp : p ≤ s.length) (hl : s.length ≤ 1000000) :
    Calls Tryz.prog 38 #[.pointer (some ⟨b, 0, none⟩)] w (TyP b s a (textR (s.drop p)) w) := by
  obtain ⟨R, hR⟩ : ∃ R, textR (s.drop p) = R := ⟨_, rfl⟩
  rw [hR]
  have HBL : Hid (b < w.heap.size) := Lib.hid (lt_of_heap h)
  have HW := Lib.hid (want_any b s p 0 a 34 w h (by omega))
  rw [show (((34 : UInt8).toNat : Nat) : Int) = 34 from rfl] at HW
  unfold textR at hR
  rw [take_at] at hR
  have HI0 : Hid (∀ w1, GX [b] w w1 → (if isB s p 34 = true then ScB w1 b s (p + 1) 0 a else ScB w1 b s p (keepE 0 a 54 p).1 (keepE 0 a 54 p).2) → TyI w b s a R (s.length + 1) (.slice none 0 0) w1) := Lib.hid (fun w1 hg hs => by
    by_cases hi : isB s p 34 = true
    · rw [if_pos hi] at hs hR
      have hlt : p < s.length := by unfold isB at hi; simp at hi; exact hi.1
      refine ⟨p + 1, [], 0, a, ⟨OwnT.nil _ _, hg, hs⟩, by omega, by simp, by simp, .inl ⟨rfl, rfl, (s.drop (p + 1)).length + 1, by simp, hR, by simp⟩⟩
    · rw [if_neg hi] at hs hR
      refine ⟨p, [], 54, (p : Int), ⟨OwnT.nil _ _, hg, by simpa [keepE] using hs⟩, hp, by simp, by simp, .inr ⟨54, s.length - p, hR.symm, by decide, rfl, ?_⟩⟩
      omega)
  clear h hR
  go_enter Tryz.func38, Tryz.ntmps38
  go_wp2_with fail
  refine HW.out.mono ?_
  rintro e w1 ⟨rfl, hg1, hs1⟩
  have HI1 := Lib.hid (HI0.out w1 hg1 hs1)
  clear hg1 hs1 HW HI0
  go_wp2_with fail
  go_loopg [3] (s.length + 2) (fun gk v wx => ∃ n, gk = n + 1 ∧ Hid (TyI w b s a R n v wx))
  case atStart => exact ⟨s.length + 1, rfl, HI1⟩
  case round =>
    obtain ⟨n, rfl, HI⟩ := hrel
    rename World => wa
    obtain ⟨q, acc, c, a', hT, hq, hal4, hal, hcs⟩ := HI.out
    obtain ⟨A, C, rfl⟩ := hT.1.form
    rcases hcs with ⟨rfl, haa, n0, hn0, hR, hn⟩ | ⟨m, k, hR, hm, hc, ha⟩
    rotate_left
    · have hc0 : (c == 0) = false := by subst hc; simpa using hm
      have x2 := hT.2.2.c.2.2.1
      have hcv := hT.1.conv
      have HX := Lib.hid (ty_bad (a := a) hR hm hc ha hT hq)
      clear hT HI hR hc ha
      go_wp2_with fail
      go_ret
      exact HX.out
    · rw [haa] at hT
      have hal := hal rfl
      clear haa HI
      have HT := Lib.hid hT
      obtain ⟨x0, x1, x2, -⟩ := hT.2.2.c
      have k0 : ∀ mm : QW wa, mm.val.cell? ⟨b, 0, none⟩ = some (.string ⟨s.toArray⟩) := fun mm => mm.cell x0
      have k1 : ∀ mm : QW wa, mm.val.cell? ⟨b, 1, none⟩ = some (.int .i64 (q : Int)) := fun mm => mm.cell x1
      obtain ⟨n1, rfl⟩ : ∃ n1, n0 = n1 + 1 := ⟨n0 - 1, by omega⟩
      have HNo : Hid (∀ (wx : World) (A' : Int), ScB wx b s q 0 a → Calls Tryz.prog 27 #[.pointer (some ⟨b, 0, none⟩), .int .i64 54, .int .i64 A'] wx fun e w' => e = .returned (.tuple #[]) ∧ ScB w' b s q (keepE 0 a 54 A').1 (keepE 0 a 54 A').2 ∧ GX [b] wx w') := Lib.hid (fun wx A' hs => no_any b s q 0 a 54 A' wx hs)
      have HBad : Hid (∀ (k A' : Nat), R = .bad 54 k → A' = s.length - k → ∀ wx w', TyS w b s q 0 a (.slice A acc.length C) acc wx → ScB w' b s q (keepE 0 a 54 (A' : Int)).1 (keepE 0 a 54 (A' : Int)).2 → GX [b] wx w' → (convert 104 9 (.slice A acc.length C)).run Tryz.prog w' = .ok (.string ⟨acc.toArray⟩) w' ∧ TyP b s a R w (.returned (.string ⟨acc.toArray⟩)) w') := Lib.hid (fun k A' hk hA wx w' hx hs hg => by
        subst hA
        have hy := hx.put HBL.out hg (q' := q) (c' := 54) (a' := ((s.length - k : Nat) : Int)) (by simpa [keepE] using hs)
        exact ⟨hy.1.conv, ty_bad (a := a) hk (by decide) rfl rfl hy hq⟩)
      clear hT x0 x1
      by_cases hend : s.length ≤ q
      · have hd : decide (s.length ≤ q) = true := by simpa using hend
        have HRe : Hid (R = .bad 54 0) := Lib.hid (by rw [← hR, List.drop_of_length_le hend]; rfl)
        clear hR hend
        go_upto_region 4 with (fail)
        refine wp_region_q (by kernel_rfl) (by kernel_rfl) ?_
        (repeat (go_big_quiet_step (fail)))
        refine wpQuiet_nil ?_
        rintro wb ⟨mb, hmb⟩
        have HTb := Lib.hid (HT.out.q (show Q wa wb by rw [hmb]; exact mb.le))
        have x0 := HTb.out.2.2.c.1
        have HN := Lib.hid (HNo.out wb s.length HTb.out.2.2)
        clear mb hmb k0 k1 HNo
        go_wp2_with fail
        refine HN.out.mono ?_
        rintro e w3 ⟨rfl, hs3, hg3⟩
        obtain ⟨hcv, hX⟩ := HBad.out 0 s.length HRe.out (by omega) wb w3 HTb.out hs3 hg3
        have HX := Lib.hid hX
        clear hs3 hg3 hX HBad
        go_wp2_with fail
        go_ret
        exact HX.out
      · have hd : decide (s.length ≤ q) = false := by simpa using hend
        have hd2 : decide (q < s.length) = true := by simp; omega
        rw [txt_step (by omega)] at hR
        obtain ⟨v, hv⟩ : ∃ v, gB s q = v := ⟨_, rfl⟩
        rw [hv] at hR
        have HR := Lib.hid hR
        clear hR
        go_upto_region 4 with (fail)
        refine wp_region_q (by kernel_rfl) (by kernel_rfl) ?_
        (repeat (go_big_quiet_step (fail)))
        refine wpQuiet_nil ?_
        rintro wb ⟨mb, hmb⟩
        have hqb : Q wa wb := by rw [hmb]; exact mb.le
        have HTb := Lib.hid (HT.out.q hqb)
        have x0 := HTb.out.2.2.c.1
        have x1 := HTb.out.2.2.c.2.1
        have k0 : ∀ mm : QW wb, mm.val.cell? ⟨b, 0, none⟩ = some (.string ⟨s.toArray⟩) := fun mm => mm.cell x0
        have k1 : ∀ mm : QW wb, mm.val.cell? ⟨b, 1, none⟩ = some (.int .i64 (q : Int)) := fun mm => mm.cell x1
        clear mb hmb hqb HT x0 x1 x2
        go_upto_region 6 with (fail)
        refine wp_region_q (by kernel_rfl) (by kernel_rfl) ?_
        (repeat (go_big_quiet_step (fail)))
        refine wpQuiet_nil ?_
        rintro wc ⟨mb, hmb⟩
        have hqb : Q wb wc := by rw [hmb]; exact mb.le
        have HTc := Lib.hid (HTb.out.q hqb)
        have x0 := HTc.out.2.2.c.1
        have x1 := HTc.out.2.2.c.2.1
        have k0 : ∀ mm : QW wc, mm.val.cell? ⟨b, 0, none⟩ = some (.string ⟨s.toArray⟩) := fun mm => mm.cell x0
        have k1 : ∀ mm : QW wc, mm.val.cell? ⟨b, 1, none⟩ = some (.int .i64 (q : Int)) := fun mm => mm.cell x1
        have f1 := HTc.out.2.2.f 1
        clear mb hmb hqb HTb
        by_cases c34 : v = 34
        · subst c34
          have HRe : Hid (R = .ok acc (s.drop (q + 1))) := Lib.hid (by rw [← HR.out]; rfl)
          have hT2 : TyS w b s (q + 1) 0 a (.slice A acc.length C) acc (wc.setCell ⟨b, 1, none⟩ (.int .i64 ((q : Int) + 1))) := HTc.out.put HBL.out ((GX.refl [b] wc).set (by simp) _ _) (HTc.out.2.2.atn (q + 1) _ (by omega))
          have hcv := hT2.1.conv
          have HX : Hid (TyP b s a R w (.returned (.string ⟨acc.toArray⟩)) (wc.setCell ⟨b, 1, none⟩ (.int .i64 ((q : Int) + 1)))) := Lib.hid (by
            rw [HRe.out]
            exact ⟨hT2.2.1, rfl, q + 1, by omega, rfl, hT2.2.2⟩)
          clear hT2 k0 k1 HR HNo HBad
          go_wp2_with fail
          go_ret
          exact HX.out
        · have g34 : ((v.toNat : Int) == 34) = false := by
            have := u8_eq v 34
            rw [show ((v.toNat : Int) == 34) = (v == 34) from this]; simpa using c34
          by_cases c92 : v = 92
          · subst c92
            obtain ⟨E, hE⟩ : ∃ E, escR (s.drop q) = E := ⟨_, rfl⟩
            have HE := rescape_any b s q a wc HTc.out.2.2 (by omega) (by omega)
            rw [hE] at HE
            have HE := Lib.hid HE
            have HRe : Hid (E.bind (fun c u => txtR n1 u (acc ++ c)) = R) := Lib.hid (by rw [← HR.out, ← hE]; rfl)
            have HEl : Hid (∀ x t, E = .ok x t → x.length ≤ 4 ∧ t.length + 2 ≤ s.length - q) := Lib.hid (fun x t e => by
              have := esc_len (l := s.drop q) (c := x) (r := t) (by rw [hE, e])
              rw [List.length_drop] at this; exact this)
            clear hE k0 k1 HR HNo HBad
            go_wp2_with fail
            refine HE.out.mono ?_
            intro e w2 hP
            have HP := Lib.hid hP
            clear hP HE x0 x1 f1
            cases E with
            | ok x t =>
              obtain ⟨hg2, rfl, q2, hq2, hdr, hs2⟩ := HP.out
              obtain ⟨hx4, ht2⟩ := HEl.out x t rfl
              have HT2 := Lib.hid (HTc.out.put HBL.out hg2 hs2)
              have hqq : q + 2 ≤ q2 := by rw [← hdr, List.length_drop] at ht2; omega
              have HN : Hid (txtR n1 (s.drop q2) (acc ++ x) = R) := Lib.hid (by rw [hdr]; exact HRe.out)
              clear hg2 hdr hs2 HRe HEl HP HTc
              go_wp2_with (at_builtin; refine wpList_append_t rfl (.tmp 53) (.tmp 54) rfl w w2 b s q2 0 a _ acc x HBL.out HT2.out (by omega) (by rfl) (by rfl) ?_; intro v5 w5 hT5; have HT5 := Lib.hid hT5; clear hT5)
              go_roundg n
              case measure => omega
              case rel => exact ⟨n - 1, by omega, Lib.hid ⟨q2, acc ++ x, 0, a, HT5.out, hq2, by simp; omega, fun _ => by simp; omega, .inl ⟨rfl, rfl, n1, by omega, HN.out, by omega⟩⟩⟩
            | bad c k =>
              obtain ⟨hg2, rfl, q2, hq2, hc0, hs2⟩ := HP.out
              have HT2 := Lib.hid (HTc.out.put HBL.out hg2 hs2)
              have hqq : acc.length ≤ 4 * s.length := by omega
              have HN : Hid (R = .bad c k) := Lib.hid HRe.out.symm
              clear hg2 hs2 HRe HEl HP HTc
              go_wp2_with (at_builtin; refine wpList_append_t rfl (.tmp 53) (.tmp 54) rfl w w2 b s q2 (c : Int) ((s.length - k : Nat) : Int) _ acc [] HBL.out HT2.out (by simp; omega) (by rfl) (by rfl) ?_; intro v5 w5 hT5; have HT5 := Lib.hid hT5; clear hT5)
              go_roundg n
              case measure => omega
              case rel => exact ⟨n - 1, by omega, Lib.hid ⟨q2, acc ++ [], (c : Int), _, HT5.out, hq2, by simp; omega, fun h => absurd h (by simpa using hc0), .inr ⟨c, k, HN.out, hc0, rfl, rfl⟩⟩⟩
          · have g92 : ((v.toNat : Int) == 92) = false := by
              have := u8_eq v 92
              rw [show ((v.toNat : Int) == 92) = (v == 92) from this]; simpa using c92
            obtain ⟨N, hN⟩ : ∃ N, utfN (s.drop q) = N := ⟨_, rfl⟩
            have HU := Lib.hid (fun mm : QW wc => rutf_any s q mm.val (by omega) (by omega))
            have hNb : N ≠ 0 → q + N ≤ s.length := fun h => by rw [← hN] at h ⊢; exact utf_bound h
            rw [hN] at HU
            have HR2 : Hid ((if v.toNat < 32 ∨ N = 0 then .bad 54 (s.length - q) else txtR n1 (s.drop (q + N)) (acc ++ sub s q (q + N))) = R) := Lib.hid (by rw [← HR.out, if_neg c34, if_neg c92, hN])
            clear hN HR x0 x1
            go_upto_region 12 with (fail)
            refine wp_region_q (by kernel_rfl) (by kernel_rfl) ?_
            (repeat (go_big_quiet_step (first | (go_at_call 54; exact calls_q (HU.out _)))))
            refine wpQuiet_nil ?_
            rintro wd ⟨mb, hmb⟩
            have HTd := Lib.hid (HTc.out.q (show Q wc wd by rw [hmb]; exact mb.le))
            have x0 := HTd.out.2.2.c.1
            have x1 := HTd.out.2.2.c.2.1
            have f1 := HTd.out.2.2.f 1
            clear mb hmb k0 k1 HTc HU
            by_cases hbad : v.toNat < 32 ∨ N = 0
            · have HRe : Hid (R = .bad 54 (s.length - q)) := Lib.hid (by rw [← HR2.out, if_pos hbad])
              have HN := Lib.hid (HNo.out wd q HTd.out.2.2)
              clear HNo HR2 hNb
              by_cases c32 : v.toNat < 32
              · have g32 : decide ((v.toNat : Int) < 32) = true := by simp; omega
                clear hbad
                go_wp2_with fail
                refine HN.out.mono ?_
                rintro e w3 ⟨rfl, hs3, hg3⟩
                obtain ⟨hcv, hX⟩ := HBad.out (s.length - q) q HRe.out (by omega) wd w3 HTd.out hs3 hg3
                have HX := Lib.hid hX
                clear hs3 hg3 hX HBad
                go_wp2_with fail
                go_ret
                exact HX.out
              · have g32 : decide ((v.toNat : Int) < 32) = false := by simp; omega
                have hN0 : N = 0 := by omega
                subst hN0
                clear hbad
                go_wp2_with fail
                refine HN.out.mono ?_
                rintro e w3 ⟨rfl, hs3, hg3⟩
                obtain ⟨hcv, hX⟩ := HBad.out (s.length - q) q HRe.out (by omega) wd w3 HTd.out hs3 hg3
                have HX := Lib.hid hX
                clear hs3 hg3 hX HBad
                go_wp2_with fail
                go_ret
                exact HX.out
            · have g32 : decide ((v.toNat : Int) < 32) = false := by simp; omega
              have gN : ((N : Int) == 0) = false := by simp; omega
              have hqN := hNb (by omega)
              have HRe : Hid (txtR n1 (s.drop (q + N)) (acc ++ sub s q (q + N)) = R) := Lib.hid (by rw [← HR2.out, if_neg hbad])
              have hN1 : 1 ≤ N := by omega
              clear HNo HR2 hNb hbad HBad
              go_upto_region 15 with (fail)
              clear x0 x1 f1
              have k0 : ∀ mm : SWA (fun W => ScB W b s q 0 a), mm.val.cell? ⟨b, 0, none⟩ = some (.string ⟨s.toArray⟩) := fun mm => mm.property.c.1
              have k1 : ∀ mm : SWA (fun W => ScB W b s q 0 a), mm.val.cell? ⟨b, 1, none⟩ = some (.int .i64 (q : Int)) := fun mm => mm.property.c.2.1
              haveI hne : Nonempty (SWA (fun W => ScB W b s q 0 a)) := ⟨⟨wd, HTd.out.2.2⟩⟩
              have hle : (q : Int) + (N : Int) ≤ (s.length : Int) := by omega
              refine wp_plan_A (fun W => ScB W b s q 0 a) (HTd.out.q (Q.refl wd).drew).2.2 [([0, 1, 2, 3, 4, 5, 6, 7, 8, 9, 10, 11, 12, 13, 14, 15], [16, 17])] (by kernel_rfl) (by kernel_rfl) (fun c a d v w h => by cases d <;> exact h) ?_
              simp only [wpPlan, wpListK, List.map_cons, List.map_nil, Array.getD_eq_getD_getElem?, List.getElem?_toArray, List.getElem?_cons_succ, List.getElem?_cons_zero, Option.getD_some, Act.put, List.setIfInBounds_toArray, List.set_cons_succ, List.set_cons_zero]
              (repeat (go_big_quiet_step (fail)))
              refine wpQuiet_nil ?_
              intro K hK
              clear hne k0 k1 hle
              have HTe := Lib.hid (HTd.out.q (Q.refl wd).drew)
              have hsl : (sub s q (q + N)).length = N := by rw [length_sub]; omega
              have HSl := Lib.hid hsl
              clear hsl HTd
              refine wpList_append_t rfl (.tmp 77) (.tmp 92) rfl w wd.drew b s q 0 a _ acc (sub s q (q + N)) HBL.out HTe.out (by rw [HSl.out]; omega) (by rfl) (by rfl) ?_
              intro v5 w5 hT5
              have HT5 := Lib.hid hT5
              clear hT5 HTe
              simp only [Act.put, List.setIfInBounds_toArray, List.set_cons_succ, List.set_cons_zero]
              go_wp2_with fail
              refine hK.out _ _ ⟨⟨w5, HT5.out.2.2⟩, rfl⟩ ?_
              clear hK K
              intro K hK
              go_wp2_with fail
              refine hK.out _ _ ⟨⟨w5, HT5.out.2.2⟩, rfl⟩ ?_
              clear hK K
              obtain ⟨x0, x1, x2, -⟩ := HT5.out.2.2.c
              have f1 := HT5.out.2.2.f 1
              have HT6 : Hid (TyS w b s (q + N) 0 a v5 (acc ++ sub s q (q + N)) (w5.setCell ⟨b, 1, none⟩ (.int .i64 ((q : Int) + (N : Int))))) := Lib.hid (HT5.out.put HBL.out ((GX.refl [b] w5).set (by simp) _ _) (HT5.out.2.2.atn (q + N) _ (by omega)))
              clear HT5
              go_wp2_with fail
              go_roundg n
              case measure => omega
              case rel => exact ⟨n - 1, by omega, Lib.hid ⟨q + N, acc ++ sub s q (q + N), 0, a, HT6.out, hqN, by rw [List.length_append, HSl.out]; omega, fun _ => by rw [List.length_append, HSl.out]; omega, .inl ⟨rfl, rfl, n1, by omega, HRe.out, by omega⟩⟩⟩
end Go.Proofs.YtlhhiiemojhjdaaGreatDoor
set_option linter.unusedVariables false
set_option linter.unusedSimpArgs false
namespace Go.Proofs.YtlhhiiemojhjdaaGreatDoor
open Go Go.RowKit
def SlF (v : Value) : Prop := ∃ A n c, v = .slice A n c
def VlP (d b : Nat) (s : Txt) (a : Int) (r : PR JsonD) (w : World) (e : Ending) (w' : World) : Prop := GX [b] w w' ∧
  match r with
  | .ok v t => (∃ un uk, e = .returned (.agg (cellJ v un uk).toArray) ∧ JO w' v w.heap.size w'.heap.size un uk) ∧ ∃ q, q ≤ s.length ∧ s.drop q = t ∧ ScB w' b s q 0 a
  | .bad c n => (∃ kk kt un uk, e = .returned (.agg (jsonC kk kt un uk).toArray) ∧ SlF un ∧ SlF uk) ∧ ∃ q, q ≤ s.length + d ∧ c ≠ 0 ∧ ScB w' b s q (c : Int) ((s.length - n : Nat) : Int)
theorem VlP.any {d b : Nat} {s : Txt} {a : Int} {r : PR JsonD} {w : World} {e : Ending} {w' : World} (h : VlP d b s a r w e w') : ∃ kk kt un uk, e = .returned (.agg (jsonC kk kt un uk).toArray) ∧ SlF un ∧ SlF uk ∧ GX [b] w w' ∧ ∃ q c a', q ≤ s.length + d ∧ ScB w' b s q c a' ∧
    ((∃ v t, r = .ok v t ∧ jsonC kk kt un uk = cellJ v un uk ∧ JO w' v w.heap.size w'.heap.size un uk ∧ c = 0 ∧ a' = a ∧ q ≤ s.length ∧ s.drop q = t) ∨ (∃ m k : Nat, r = .bad m k ∧ m ≠ 0 ∧ c = (m : Int) ∧ a' = ((s.length - k : Nat) : Int))) := by
  obtain ⟨hg, h⟩ := h
  cases r with
  | ok v t =>
    obtain ⟨⟨un, uk, rfl, hj⟩, q, hq, hd, hs⟩ := h
    exact ⟨v.kind, v.text, un, uk, rfl, (jo_form hj).1, (jo_form hj).2, hg, q, 0, a, by omega, hs, .inl ⟨v, t, rfl, rfl, hj, rfl, rfl, hq, hd⟩⟩
  | bad m k =>
    obtain ⟨⟨kk, kt, un, uk, rfl, h1, h2⟩, q, hq, hm, hs⟩ := h
    exact ⟨kk, kt, un, uk, rfl, h1, h2, hg, q, m, _, hq, hs, .inr ⟨m, k, rfl, hm, rfl, rfl⟩⟩
def VlAll (d b : Nat) (s : Txt) (a : Int) : Prop := ∀ q W, ScB W b s q 0 a → q ≤ s.length → Calls Tryz.prog 26 #[.pointer (some ⟨b, 0, none⟩), .int .i64 (20 - (d : Int))] W (VlP d b s a (valR d (s.drop q)) W)
theorem kid_laid {w0 W w1 w3 w4 : World} {jb b : Nat} {k : Int} {ns : List Txt} {acc : List JsonD} {vn vk v' : Value} {cells kc : List Value} (hL : LstV W jb k ns acc vn vk cells) (h1 : GX [b] W w1) (hb : b < jb) (h0 : w0.heap.size ≤ jb) (hg0 : GX [b] w0 W)
    (h3 : Q w1 w3) (hgrow : w3.grownBy w4 vk.ownBlock) (hrow : w4.ownsRow (jb + 1) 46 4 v' (acc.length + 1) (cells ++ kc)) (hob : v'.ownBlock = vk.ownBlock ∨ v'.ownBlock = some w3.heap.size) :
    (w4.setCell ⟨jb, 3, none⟩ v').heap[jb]? = some (.cells (jsonC k [] vn v').toArray 46 (0, 0)) ∧ GX [b] w0 (w4.setCell ⟨jb, 3, none⟩ v') ∧ (∀ i, i < jb → i < w1.heap.size → (w4.setCell ⟨jb, 3, none⟩ v').heap[i]? = w1.heap[i]?) ∧
      ∀ v un uk, kc = cellJ v un uk → JO w1 v W.heap.size w1.heap.size un uk → LstV (w4.setCell ⟨jb, 3, none⟩ v') jb k ns (acc ++ [v]) vn v' (cells ++ kc) := by
  have hL1 := hL.gx h1 hb
  have hkb : ∀ i, vk.ownBlock = some i → jb + 1 ≤ i ∧ i < w1.heap.size := fun i hi => ownsRow_base hL1.krow hi
  have hlt := hL1.lt
  have hs3 := h3.size
  have hs4 := hgrow.size
  have h4 : ∀ i, i < w1.heap.size → vk.ownBlock ≠ some i → w4.heap[i]? = w1.heap[i]? := fun i hi hn => by
    rw [hgrow.block i (by omega) (fun e => hn e.symm)]; exact Below.block h3 i hi
  have h5 : ∀ i, i < w1.heap.size → i ≠ jb → vk.ownBlock ≠ some i → (w4.setCell ⟨jb, 3, none⟩ v').heap[i]? = w1.heap[i]? := fun i hi hj hn => by
    rw [heap_setCell_other w4 ⟨jb, 3, none⟩ i v' hj]; exact h4 i hi hn
  have hjb4 : w4.heap[jb]? = some (.cells (jsonC k [] vn vk).toArray 46 (0, 0)) := (h4 jb hlt (fun e => by have := (hkb jb e).1; omega)).trans hL1.blk
  have hblk : (w4.setCell ⟨jb, 3, none⟩ v').heap[jb]? = some (.cells (jsonC k [] vn v').toArray 46 (0, 0)) := by
    rw [heap_setCell_any w4 jb 3 _ _ _ _ hjb4]; rfl
  have hlow : ∀ i, i < jb → i < w1.heap.size → (w4.setCell ⟨jb, 3, none⟩ v').heap[i]? = w1.heap[i]? := fun i h6 h7 => h5 i h7 (by omega) (fun e => by have := (hkb i e).1; omega)
  refine ⟨hblk, ?_, hlow, fun v un uk hk hj => ?_⟩
  · have hg1 : GX [b] w0 w1 := hg0.trans h1
    refine ((hg1.trans (GX.q h3)).sub (GX.gbo hgrow) (fun i hi => ?_)).sub ((GX.refl [jb] w4).set (by simp) 3 v') (fun i hi => ?_)
    · have := (hkb i (by simpa using hi)).1; right; omega
    · simp at hi; right; omega
  · subst hk
    refine hL.kid (W1 := w1) h1 hb hj (by simp; omega) hblk ?_ (fun i h6 h7 h8 => h5 i h6 h7 h8) ?_
    · refine ownsRow_frame hrow (fun i h6 h7 => ?_)
      rw [heap_setCell_other w4 ⟨jb, 3, none⟩ i v' (by
        intro e
        have e : i = jb := e
        subst e
        have := (ownsRow_base hrow h6).1; omega)]
    · rcases hob with h | h
      · exact .inl h
      · exact .inr ⟨_, by omega, h⟩
theorem kid_mid {W w1 w3 w4 : World} {jb b : Nat} {k : Int} {ns : List Txt} {acc : List JsonD} {vn vk v' : Value} {cells xs : List Value} (hL : LstV W jb k ns acc vn vk cells) (h1 : GX [b] W w1) (hb : b < jb)
    (h3 : Q w1 w3) (hgrow : w3.grownBy w4 vk.ownBlock) (hrow : w4.ownsRow (jb + 1) 46 4 v' (acc.length + 1) xs) :
    (∃ g cap, v' = .slice (some ⟨g, 0, none⟩) (acc.length + 1) cap) ∧ w4.cell? ⟨jb, 3, none⟩ = some vk ∧ w4.frozen? ⟨jb, 3, none⟩ = false := by
  have hL1 := hL.gx h1 hb
  have hkb : ∀ i, vk.ownBlock = some i → jb + 1 ≤ i ∧ i < w1.heap.size := fun i hi => ownsRow_base hL1.krow hi
  have hs3 := h3.size
  have hlt := hL1.lt
  have hjb4 : w4.heap[jb]? = some (.cells (jsonC k [] vn vk).toArray 46 (0, 0)) := by
    rw [hgrow.block jb (by omega) (fun e => by have := (hkb jb e.symm).1; omega)]
    exact h3.block hL1.blk
  refine ⟨?_, by rw [cell_of_row _ _ _ _ _ _ hjb4]; rfl, frozen_of_row w4 jb 3 _ _ hjb4⟩
  rcases hrow.2 with ⟨_, h0⟩ | ⟨g, cap, cur, h, _⟩
  · omega
  · exact ⟨g, cap, h⟩
theorem rowJ_one {k : Int} {t : Txt} {un uk : Value} (h1 : SlF un) (h2 : SlF uk) : (jsonC k t un uk).toArray.all (·.oneCell') = true := by
  obtain ⟨_, _, _, rfl⟩ := h1
  obtain ⟨_, _, _, rfl⟩ := h2
  simp [jsonC, Value.oneCell']
theorem rowJ_sz (k : Int) (t : Txt) (un uk : Value) : (Tryz.prog.info? 46).map (·.size) = some (jsonC k t un uk).toArray.size := info_sz (.mk k t [] []) un uk
theorem val_exit {w wa : World} {b rv jb q : Nat} {s : Txt} {c a' k : Int} {vn vk : Value} (hrb : b < rv) (hw0 : w.heap.size ≤ rv) (hjb : rv < jb) (hbl : b < w.heap.size) (hg : GX [b] w wa) (hz : wa.heap[rv]? = some (.cells zeroC.toArray 46 (0, 0))) (hs : ScB wa b s q c a')
    (hb : wa.heap[jb]? = some (.cells (jsonC k [] vn vk).toArray 46 (0, 0))) :
    (wa.setCell ⟨b, 1, none⟩ (.int .i64 ((q : Int) + 1))).heap[jb]? = some (.cells (jsonC k [] vn vk).toArray 46 (0, 0)) ∧
    (wa.setCell ⟨b, 1, none⟩ (.int .i64 ((q : Int) + 1))).heap[rv]? = some (.cells zeroC.toArray 46 (0, 0)) ∧
    GX [b] w ((wa.setCell ⟨b, 1, none⟩ (.int .i64 ((q : Int) + 1))).setRow rv (jsonC k [] vn vk).toArray) ∧ ScB ((wa.setCell ⟨b, 1, none⟩ (.int .i64 ((q : Int) + 1))).setRow rv (jsonC k [] vn vk).toArray) b s (q + 1) c a' ∧
    ((wa.setCell ⟨b, 1, none⟩ (.int .i64 ((q : Int) + 1))).setRow rv (jsonC k [] vn vk).toArray).heap[rv]? = some (.cells (jsonC k [] vn vk).toArray 46 (0, 0)) ∧
    ∀ v, JO wa v (jb + 1) wa.heap.size vn vk → JO ((wa.setCell ⟨b, 1, none⟩ (.int .i64 ((q : Int) + 1))).setRow rv (jsonC k [] vn vk).toArray) v w.heap.size ((wa.setCell ⟨b, 1, none⟩ (.int .i64 ((q : Int) + 1))).setRow rv (jsonC k [] vn vk).toArray).heap.size vn vk := by
  have h1 : (wa.setCell ⟨b, 1, none⟩ (.int .i64 ((q : Int) + 1))).heap[jb]? = some (.cells (jsonC k [] vn vk).toArray 46 (0, 0)) := by
    rw [heap_setCell_other wa ⟨b, 1, none⟩ jb _ (by show jb ≠ b; omega)]; exact hb
  have h2 : (wa.setCell ⟨b, 1, none⟩ (.int .i64 ((q : Int) + 1))).heap[rv]? = some (.cells zeroC.toArray 46 (0, 0)) := by
    rw [heap_setCell_other wa ⟨b, 1, none⟩ rv _ (by show rv ≠ b; omega)]; exact hz
  have h3 := hs.atn (q + 1) ((q : Int) + 1) (by omega)
  have h4 : GX [b] w (wa.setCell ⟨b, 1, none⟩ (.int .i64 ((q : Int) + 1))) := hg.set (by simp) _ _
  refine ⟨h1, h2, h4.sub ((GX.refl [rv] _).setRow (by simp) _) (fun i hi => by simp at hi; right; omega), ?_, setRow_at h2 _, fun v hj => ?_⟩
  · unfold ScB
    rw [setRow_other _ _ _ _ (by omega)]; exact h3
  · have hsz : ((wa.setCell ⟨b, 1, none⟩ (.int .i64 ((q : Int) + 1))).setRow rv (jsonC k [] vn vk).toArray).heap.size = wa.heap.size := by simp [World.setRow]
    rw [hsz]
    refine (JO.frame v _ _ vn vk (fun i e1 e2 e3 => ?_) hj).widen (by omega) (Nat.le_refl _)
    rw [setRow_other _ _ _ _ (by omega), heap_setCell_other wa ⟨b, 1, none⟩ i _ (by show i ≠ b; omega)]
end Go.Proofs.YtlhhiiemojhjdaaGreatDoor
set_option linter.unusedVariables false
set_option linter.unusedSimpArgs false
namespace Go.Proofs.YtlhhiiemojhjdaaGreatDoor
open Go Go.RowKit
def LiS (d b : Nat) (s : Txt) (a : Int) (R : PR (List JsonD)) (w0 : World) (rv jb g : Nat) (en : Bool) (w : World) : Prop :=
  GX [b] w0 w ∧ w.heap[rv]? = some (.cells zeroC.toArray 46 (0, 0)) ∧
  ((∃ q acc, LstB w jb 6 [] acc ∧ ScB w b s q 0 a ∧ q ≤ s.length ∧ acc.length ≤ q ∧
      ((en = true ∧ q < s.length ∧ R = .ok acc (s.drop (q + 1))) ∨ (en = false ∧ ∃ n, n ≤ g ∧ s.length - q < n ∧ itemsR (valR d) 93 n (s.drop q) acc = R))) ∨
   (∃ q c a' m k vn vk, w.heap[jb]? = some (.cells (jsonC 6 [] vn vk).toArray 46 (0, 0)) ∧ SlF vn ∧ SlF vk ∧ ScB w b s q c a' ∧ q ≤ s.length + d ∧ R = .bad m k ∧ m ≠ 0 ∧ c = (m : Int) ∧ a' = ((s.length - k : Nat) : Int)))
theorem LiS.look {d b : Nat} {s : Txt} {a : Int} {R : PR (List JsonD)} {w : World} {rv jb g : Nat} {x : Bool} {wa : World} (h : LiS d b s a R w rv jb g x wa) (hrb : b < rv) (hw0 : w.heap.size ≤ rv) (hjb : jb = rv + 1) (hbl : b < w.heap.size) :
    (∃ q acc n vn vk cells, LstV wa jb 6 [] acc vn vk cells ∧ ScB wa b s q 0 a ∧ q ≤ s.length ∧ acc.length ≤ q ∧ x = false ∧ n + 1 ≤ g ∧ s.length - q < n + 1 ∧ itemsR (valR d) 93 (n + 1) (s.drop q) acc = R) ∨
    ∃ q c a' vn vk, wa.heap[jb]? = some (.cells (jsonC 6 [] vn vk).toArray 46 (0, 0)) ∧ SlF vn ∧ SlF vk ∧ ScB wa b s q c a' ∧ q ≤ s.length + d ∧ ((c = 0 ∧ x = true) ∨ (c == 0) = false) ∧
      VlP (d + 1) b s a (R.bind fun ks t => .ok (.mk 6 [] [] ks) t) w (.returned (.agg (jsonC 6 [] vn vk).toArray)) ((wa.setCell ⟨b, 1, none⟩ (.int .i64 ((q : Int) + 1))).setRow rv (jsonC 6 [] vn vk).toArray) := by
  obtain ⟨hg, hz, h⟩ := h
  rcases h with ⟨q, acc, hL, hs, hq, ha, h⟩ | ⟨q, c, a', m, k, vn, vk, hb, h1, h2, hs, hq, hR, hm, hc, ha⟩
  · rcases h with ⟨hx, hql, hR⟩ | ⟨hx, n, hn, hqn, hR⟩
    · right
      obtain ⟨vn, vk, hb, hj⟩ := hL.toJO (Nat.le_refl _)
      obtain ⟨_, _, e3, e4, _, e6⟩ := val_exit hrb hw0 (by omega) hbl hg hz hs hb
      refine ⟨q, 0, a, vn, vk, hb, (jo_form hj).1, (jo_form hj).2, hs, by omega, .inl ⟨rfl, hx⟩, e3, ?_⟩
      rw [hR]
      exact ⟨⟨vn, vk, rfl, e6 _ hj⟩, q + 1, by omega, rfl, e4⟩
    · left
      obtain ⟨vn, vk, cells, hL⟩ := hL
      obtain ⟨n', rfl⟩ : ∃ n', n = n' + 1 := ⟨n - 1, by omega⟩
      exact ⟨q, acc, n', vn, vk, cells, hL, hs, hq, ha, hx, hn, hqn, hR⟩
  · right
    obtain ⟨_, _, e3, e4, _, _⟩ := val_exit hrb hw0 (by omega) hbl hg hz hs hb
    refine ⟨q, c, a', vn, vk, hb, h1, h2, hs, hq, .inr (by subst hc; simpa using hm), e3, ?_⟩
    subst hR hc ha
    exact ⟨⟨6, [], vn, vk, rfl, h1, h2⟩, q + 1, by omega, hm, e4⟩
set_option maxRecDepth 100000 in
set_option maxHeartbeats 8000000 in
theorem rlist_any (d b : Nat) (s : Txt) (a : Int) (p : Nat) (w : World) (IH : VlAll d b s a) (hd : d < 20) (h : ScB w b s p 0 a) (hp : p < s.length) (hl : s.length ≤ 100000) :
    Calls Tryz.prog 36 #[.pointer (some ⟨b, 0, none⟩), .int .i64 (20 - ((d + 1 : Nat) : Int))] w (VlP (d + 1) b s a ((rowR (valR d) 93 (s.drop (p + 1))).bind fun ks t => .ok (.mk 6 [] [] ks) t) w) := by
  obtain ⟨R, hR⟩ : ∃ R, rowR (valR d) 93 (s.drop (p + 1)) = R := ⟨_, rfl⟩
  rw [hR]
  have HR := Lib.hid hR
  have HBL : Hid (b < w.heap.size) := Lib.hid (lt_of_heap h)
  have H := Lib.hid h
  obtain ⟨D, hD⟩ : ∃ D : Int, 20 - ((d + 1 : Nat) : Int) = D := ⟨_, rfl⟩
  rw [hD]
  have hD1 : D + 1 = 20 - (d : Int) := by omega
  have hD2 : (0 : Int) ≤ D := by omega
  have hD3 : D ≤ 20 := by omega
  have IH : Hid (∀ q W, ScB W b s q 0 a → q ≤ s.length → Calls Tryz.prog 26 #[.pointer (some ⟨b, 0, none⟩), .int .i64 (D + 1)] W (VlP d b s a (valR d (s.drop q)) W)) := Lib.hid (fun q W h1 h2 => by rw [hD1]; exact IH q W h1 h2)
  clear h hR hD hD1
  go_enter Tryz.func36, Tryz.ntmps36
  go_upto_region 1 with (fail)
  obtain ⟨W0, hW0⟩ : ∃ W0, w.alloc (.cells #[.int .i64 0, .string ⟨#[]⟩, .slice none 0 0, .slice none 0 0] 46) = W0 := ⟨_, rfl⟩
  have hz0 : W0.heap[w.heap.size]? = some (.cells zeroC.toArray 46 (0, 0)) := by rw [← hW0]; exact heap_alloc_new w _
  have hq0 : Q w W0 := by rw [← hW0]; exact (Q.refl w).alloc _
  have hs0 : W0.heap.size = w.heap.size + 1 := by rw [← hW0]; simp
  obtain ⟨rv, hrv⟩ : ∃ rv, w.heap.size = rv := ⟨_, rfl⟩
  rw [hrv] at hz0 hs0
  rw [hW0, hrv]
  have HIn := Lib.hid (info_sz (.mk 6 [] [] []) (.slice none 0 0) (.slice none 0 0))
  have HOne := Lib.hid (cellJ_one (j := .mk 6 [] [] []) (un := .slice none 0 0) (uk := .slice none 0 0) ⟨_, _, _, rfl⟩ ⟨_, _, _, rfl⟩)
  have HZ0 := Lib.hid hz0
  have HQ0 := Lib.hid hq0
  have HS0 := Lib.hid hs0
  have HRV := Lib.hid hrv
  clear hW0 hz0 hq0 hs0 hrv
  go_upto_region 2 with (refine wpList_store_row rfl 46 (.tmp 5) (.tmp 8) rfl W0.heap.size (jsonC 6 [] (.slice none 0 0) (.slice none 0 0)).toArray rfl rfl 46 _ (heap_alloc_new W0 _) HIn.out rfl HOne.out ?_)
  obtain ⟨W1, hW1⟩ : ∃ W1, (W0.alloc (.cells #[.int .i64 0, .string ⟨#[]⟩, .slice none 0 0, .slice none 0 0] 46)).setRow W0.heap.size (jsonC 6 [] (.slice none 0 0) (.slice none 0 0)).toArray = W1 := ⟨_, rfl⟩
  have hb1 : W1.heap[W0.heap.size]? = some (.cells (jsonC 6 [] (.slice none 0 0) (.slice none 0 0)).toArray 46 (0, 0)) := by rw [← hW1]; exact setRow_at (heap_alloc_new W0 _) _
  have hq1 : Q W0 W1 := by rw [← hW1]; exact ((Q.refl W0).alloc _).setRow (Nat.le_refl _) _
  obtain ⟨jb, hjb⟩ : ∃ jb, W0.heap.size = jb := ⟨_, rfl⟩
  rw [hjb] at hb1 hW1
  rw [show (W0.alloc (.cells #[.int .i64 0, .string ⟨#[]⟩, .slice none 0 0, .slice none 0 0] 46)).setRow W0.heap.size (jsonC 6 [] (.slice none 0 0) (.slice none 0 0)).toArray = W1 by rw [hjb]; exact hW1, hjb]
  have HJB : Hid (jb = rv + 1) := Lib.hid (by rw [← hjb]; exact HS0.out)
  have HB1 := Lib.hid hb1
  have HZ1 := Lib.hid (hq1.block HZ0.out)
  have HS1 := Lib.hid (H.out.q (HQ0.out.trans hq1))
  have HG1 : Hid (GX [b] w W1) := Lib.hid (GX.q (HQ0.out.trans hq1))
  clear hW1 hb1 hq1 hjb HIn HOne HZ0 HQ0 HS0
  obtain ⟨-, x1, -, -⟩ := HS1.out.c
  have f1 := HS1.out.f 1
  have HS2 := Lib.hid (HS1.out.atn (p + 1) ((p : Int) + 1) (by omega))
  have HG2 : Hid (GX [b] W1 (W1.setCell ⟨b, 1, none⟩ (.int .i64 ((p : Int) + 1)))) := Lib.hid ((GX.refl _ _).set (by simp) _ _)
  have HBk := Lib.hid (rblanks_any b s (p + 1) 0 a _ HS2.out (by omega) (by omega))
  clear HS1 HS2
  go_wp2_with fail
  refine HBk.out.mono ?_
  rintro e W2 ⟨rfl, hg2, q, hq1, hq2, hdr, hs2⟩
  have HG3 := Lib.hid (HG2.out.trans hg2)
  have HS3 := Lib.hid hs2
  have HDr := Lib.hid hdr
  have hql : q ≤ s.length := by omega
  have HIs := Lib.hid (is_any b s q 0 a 93 W2 hs2)
  rw [show (((93 : UInt8).toNat : Nat) : Int) = 93 from rfl] at HIs
  obtain ⟨en, hen⟩ : ∃ en, isB s q 93 = en := ⟨_, rfl⟩
  rw [hen] at HIs
  have HEn := Lib.hid hen
  clear hg2 hq2 hdr hs2 HG2 HBk x1 f1 hen
  go_wp2_with fail
  refine HIs.out.mono ?_
  rintro e W3 ⟨rfl, hq3⟩
  have HI0 : Hid (LiS d b s a R w rv jb ((s.drop (p + 1)).length + 1) en W3) := Lib.hid (by
    have hg : GX [b] W1 W3 := HG3.out.trans (GX.q hq3)
    have hrb : b < rv := by rw [← HRV.out]; exact HBL.out
    have hz : W3.heap[rv]? = some (.cells zeroC.toArray 46 (0, 0)) := hg.heap (by simp; omega) HZ1.out
    have hL : LstB W3 jb 6 [] [] := (LstB.start HB1.out).gx hg (by have := HJB.out; omega)
    have hR := HR.out
    unfold rowR at hR
    rw [show skipJ (s.drop (p + 1)) = s.drop q from HDr.out.symm] at hR
    have hh : en = decide (hdB (s.drop q) = 93) := by rw [← HEn.out]; exact is_hd (by decide)
    refine ⟨HG1.out.trans hg, hz, .inl ⟨q, [], hL, HS3.out.q hq3, hql, by simp, ?_⟩⟩
    cases en with
    | true =>
      left
      have h1 := (is_iff s q 93).1 HEn.out
      have hh : hdB (s.drop q) = 93 := of_decide_eq_true hh.symm
      rw [if_pos hh, drop_at h1.1] at hR
      exact ⟨rfl, h1.1, hR.symm⟩
    | false =>
      right
      have hh : ¬ hdB (s.drop q) = 93 := of_decide_eq_false hh.symm
      rw [if_neg hh] at hR
      exact ⟨rfl, _, Nat.le_refl _, by simp; omega, hR⟩)
  clear hq3 HIs HEn HDr HS3 HG3 HG1 HZ1 HB1 H HR hq1
  obtain ⟨g0, hg0⟩ : ∃ g0, (s.drop (p + 1)).length + 1 = g0 := ⟨_, rfl⟩
  rw [hg0] at HI0
  have HRb : Hid (b < rv) := Lib.hid (by rw [← HRV.out]; exact HBL.out)
  have HW0 : Hid (w.heap.size ≤ rv) := Lib.hid (by rw [HRV.out]; exact Nat.le_refl _)
  clear HRV hg0 hql
  go_wp2_with fail
  go_loopg [6] (g0 + 1) (fun gk en wx => ∃ g x, gk = g + 1 ∧ en = .bool x ∧ Hid (LiS d b s a R w rv jb g x wx))
  case atStart => exact ⟨g0, en, rfl, rfl, HI0⟩
  case round =>
    obtain ⟨g, x, rfl, rfl, HI⟩ := hrel
    rename World => wa
    have HG := Lib.hid HI.out.1
    have HZ := Lib.hid HI.out.2.1
    rcases HI.out.look HRb.out HW0.out HJB.out HBL.out with ⟨q, acc, n, vn, vk, cells, hL, hs, hq, hal, rfl, hn, hqn, hR⟩ | ⟨q, c, a', vn, vk, hb, h1, h2, hs, hq, hcx, hfin⟩
    rotate_left
    · obtain ⟨x0, x1, x2, -⟩ := hs.c
      have f1 := hs.f 1
      obtain ⟨e1, e2, -, -, e5, -⟩ := val_exit HRb.out HW0.out (by have := HJB.out; omega) HBL.out HG.out HZ.out hs hb
      have E1 := Lib.hid e1
      have E2 := Lib.hid e2
      have E5 := Lib.hid e5
      have HFin := Lib.hid hfin
      have HSz := Lib.hid (rowJ_sz 6 [] vn vk)
      have HOne := Lib.hid (rowJ_one (k := 6) (t := []) h1 h2)
      clear HI hb h1 h2 hs hfin e1 e2 e5 x0
      rcases hcx with ⟨rfl, rfl⟩ | hc0
      all_goals
        go_wp2_with (first | refine wpList_load_row rfl 46 (.tmp 5) rfl jb rfl 46 (jsonC 6 [] vn vk).toArray (0, 0) _ E1.out Tryz.underlying46 rfl HSz.out ?_ | refine wpList_store_row rfl 46 (.tmp 4) (.tmp 63) rfl rv (jsonC 6 [] vn vk).toArray rfl rfl 46 _ E2.out HSz.out rfl HOne.out ?_)
        refine bodyPost_ret (results_cell_row rfl _ _ rv 46 _ (0, 0) _ (by rfl) E5.out Tryz.underlying46 rfl HSz.out) rfl ?_
        exact HFin.out
    · have HL := Lib.hid hL
      have HS := Lib.hid hs
      have HR := Lib.hid hR
      have HVl := Lib.hid (IH.out q wa hs hq)
      obtain ⟨x0, x1, x2, -⟩ := hs.c
      clear HI hL hs hR x0 x1
      go_wp2_with fail
      refine HVl.out.mono ?_
      intro e w1 hV
      obtain ⟨kk, kt, un, uk, rfl, hun, huk, hg1, q1, c, a', hq1, hs1, hres⟩ := hV.any
      have HG1 := Lib.hid hg1
      have HS1 := Lib.hid hs1
      have HRes := Lib.hid hres
      have HSz := Lib.hid (rowJ_sz kk kt un uk)
      have HOne := Lib.hid (rowJ_one (k := kk) (t := kt) hun huk)
      clear hV hg1 hs1 hres HVl x2
      have hw1 : jb < w1.heap.size := by
        have := HL.out.lt
        have := HG1.out.size
        omega
      go_upto_region 7 with (refine wpList_store_row rfl 46 (.tmp 7) (.tmp 32) rfl w1.heap.size (jsonC kk kt un uk).toArray rfl rfl 46 _ (heap_alloc_new w1 _) HSz.out rfl HOne.out ?_)
      obtain ⟨A, cp, hvk, hn1, hn2, hn3⟩ := row_cells HL.out.krow HL.out.krow.1
      subst hvk
      obtain ⟨W2, hW2⟩ : ∃ W2, (w1.alloc (.cells #[.int .i64 0, .string ⟨#[]⟩, .slice none 0 0, .slice none 0 0] 46)).setRow w1.heap.size (jsonC kk kt un uk).toArray = W2 := ⟨_, rfl⟩
      have hk2 : W2.heap[w1.heap.size]? = some (.cells (jsonC kk kt un uk).toArray 46 (0, 0)) := by rw [← hW2]; exact setRow_at (heap_alloc_new w1 _) _
      have hq2 : Q w1 W2 := by rw [← hW2]; exact ((Q.refl w1).alloc _).setRow (Nat.le_refl _) _
      rw [hW2]
      obtain ⟨N, hN⟩ : ∃ N, w1.heap.size = N := ⟨_, rfl⟩
      rw [hN] at hk2 ⊢
      have HK2 : Hid (W2.heap[N]? = some (.cells #[.int .i64 kk, .string ⟨kt.toArray⟩, un, uk] 46 (0, 0))) := Lib.hid hk2
      have HSz2 : Hid ((Tryz.prog.info? 46).map (·.size) = some (#[Value.int .i64 kk, .string ⟨kt.toArray⟩, un, uk]).size) := Lib.hid HSz.out
      have HQ2 := Lib.hid hq2
      have hj2 : W2.heap[jb]? = some (.cells (jsonC 6 [] vn (.slice A acc.length cp)).toArray 46 (0, 0)) := hq2.block (HL.out.gx HG1.out (by have := HJB.out; have := HRb.out; omega)).blk
      have cjb : W2.cell? ⟨jb, 3, none⟩ = some (.slice A acc.length cp) := by rw [cell_of_row _ _ _ _ _ _ hj2]; rfl
      clear hk2 hq2 hW2 hN hj2 hn3
      have hbj : b < jb := by have := HJB.out; have := HRb.out; omega
      obtain ⟨ti, hi, hz0, hz1, hz2⟩ := info_parts info_json
      have hq3 : Q w1 (W2.alloc (.cells #[.int .i64 kk, .string ⟨kt.toArray⟩, un, uk] 46)) := HQ2.out.alloc _
      have hkr := ownsRow_frame (HL.out.gx HG1.out hbj).krow (fun i _ h => Below.block hq3 i h)
      have ha1 : ∀ j u, (jsonC kk kt un uk)[j]? = some u → (W2.alloc (.cells #[.int .i64 kk, .string ⟨kt.toArray⟩, un, uk] 46)).cell? ((⟨W2.heap.size, 0, none⟩ : Addr).add j) = some u := by
        intro j u hj
        rw [add_off, Nat.zero_add, cell_of_row _ _ _ _ _ _ (heap_alloc_new W2 _)]
        simpa [jsonC] using hj
      have ha2 : ∀ u ∈ jsonC kk kt un uk, u.oneCell' = true := by
        obtain ⟨_, _, _, rfl⟩ := hun
        obtain ⟨_, _, _, rfl⟩ := huk
        intro u hu; simp [jsonC] at hu; rcases hu with rfl | rfl | rfl | rfl <;> rfl
      have HA := Lib.hid (And.intro hkr (And.intro ha1 ha2))
      have HI4 := Lib.hid (And.intro hi (And.intro hz0 (And.intro hz1 hz2)))
      have HQ3 := Lib.hid hq3
      have hal2 : acc.length ≤ 100000 := by omega
      clear hkr ha1 ha2 hi hz0 hz1 hz2 hq3
      go_wp2_with (first | refine wpList_load_row rfl 46 (.tmp 7) rfl N rfl 46 #[.int .i64 kk, .string ⟨kt.toArray⟩, un, uk] (0, 0) _ HK2.out Tryz.underlying46 rfl HSz2.out ?_ | (at_builtin; refine wpList_append_own_at (w := W2.alloc (.cells #[.int .i64 kk, .string ⟨kt.toArray⟩, un, uk] 46)) rfl (.tmp 34) (.tmp 36) 44 rfl (jb + 1) 46 ti _ 4 72 Tryz.underlying44 HI4.out.1 HI4.out.2.1 HI4.out.2.2.1 HI4.out.2.2.2 rfl (by decide) (.slice A acc.length cp) acc.length cells rfl HA.out.1 ⟨W2.heap.size, 0, none⟩ 1 1 (jsonC kk kt un uk) rfl rfl HA.out.2.1 HA.out.2.2 (by unfold maxLen; omega) (by omega) (by have := HQ3.out.size; omega) ?_; intro v' w4 hrow hgrow _ hob; obtain ⟨⟨gg, cap, rfl⟩, cj4, fj4⟩ := kid_mid HL.out HG1.out hbj HQ3.out hgrow hrow; have HRow := Lib.hid hrow; have HGrow := Lib.hid hgrow; have HOb := Lib.hid hob; clear hrow hgrow hob cjb))
      obtain ⟨k1, k2, k3, k4⟩ := kid_laid (w0 := w) HL.out HG1.out hbj (by have := HW0.out; have := HJB.out; omega) HG.out HQ3.out HGrow.out HRow.out HOb.out
      obtain ⟨w5, hw5⟩ : ∃ w5, w4.setCell ⟨jb, 3, none⟩ (.slice (some ⟨gg, 0, none⟩) (acc.length + 1) cap) = w5 := ⟨_, rfl⟩
      rw [hw5] at k1 k2 k3 k4
      rw [hw5]
      have hz5 : w5.heap[rv]? = some (.cells zeroC.toArray 46 (0, 0)) := by
        rw [k3 rv (by have := HJB.out; omega) (by have := HJB.out; omega)]
        exact HG1.out.heap (by have := HRb.out; simp; omega) HZ.out
      have hs5 : ScB w5 b s q1 c a' := by
        unfold ScB
        rw [k3 b hbj (by omega)]; exact HS1.out
      have hvn : SlF vn := by
        obtain ⟨A', c', h, _⟩ := row_cells HL.out.nrow (by simp)
        exact ⟨_, _, _, h⟩
      have HK1 := Lib.hid k1
      have HK2 := Lib.hid k2
      have HK4 := Lib.hid k4
      have HZ5 := Lib.hid hz5
      have HVn := Lib.hid hvn
      have HBk := Lib.hid (rblanks_any b s q1 c a' w5 hs5 (by omega) (by omega))
      clear k1 k2 k3 k4 hw5 hz5 hs5 hvn HQ3 HI4 HA HRow HGrow HOb cj4 fj4 HSz HOne HSz2 HQ2 HL HG1 HS1 HS HG HZ hun huk
      go_wp2_with fail
      refine HBk.out.mono ?_
      rintro e W6 ⟨rfl, hg6, q2, hq12, hq2, hdr, hs6⟩
      have HG6 := Lib.hid hg6
      have HS6 := Lib.hid hs6
      have HDr : Hid (s.drop q2 = skipJ (s.drop q1)) := Lib.hid hdr
      have HIs := Lib.hid (is_any b s q2 c a' 93 W6 hs6)
      rw [show (((93 : UInt8).toNat : Nat) : Int) = 93 from rfl] at HIs
      obtain ⟨en2, hen⟩ : ∃ en2, isB s q2 93 = en2 := ⟨_, rfl⟩
      rw [hen] at HIs
      have HEn := Lib.hid hen
      clear hg6 hdr hs6 HBk hen
      go_wp2_with fail
      refine HIs.out.mono ?_
      rintro e W7 ⟨rfl, hq7⟩
      have HS7 := Lib.hid (HS6.out.q hq7)
      have HG7 := Lib.hid (HG6.out.trans (GX.q hq7))
      obtain ⟨x0, x1, x2, -⟩ := (HS6.out.q hq7).c
      clear hq7 HIs HS6 HG6 x0 x1
      rcases HRes.out with ⟨v, t, hv, hkc, hjo, hc, haa, hq1l, hdt⟩ | ⟨m, k, hv, hm, hc, haa⟩
      rotate_left
      · have hc0 : (c == 0) = false := by subst hc; simpa using hm
        have HNext : Hid (LiS d b s a R w rv jb (g - 1) en2 W7) := Lib.hid (by
          refine ⟨HK2.out.trans HG7.out, HG7.out.heap (by have := HRb.out; simp; omega) HZ5.out, .inr ⟨q2, c, a', m, k, vn, _, HG7.out.heap (by simp; omega) HK1.out, HVn.out, ⟨_, _, _, rfl⟩, HS7.out, by omega, ?_, hm, hc, haa⟩⟩
          rw [← HR.out, itemsR, hv]; rfl)
        clear HRes hv hm hc haa HK1 HK2 HK4 HZ5 HVn HDr HEn HS7 HG7 HR
        go_wp2_with fail
        go_roundg g
        case measure => omega
        case rel => exact ⟨g - 1, en2, by omega, rfl, HNext⟩
      · rw [hc, haa] at HS7
        rw [hc] at x2
        have hgood := valR_eats d (s.drop q) v t hv
        rw [← hdt, List.length_drop, List.length_drop] at hgood
        have hR := HR.out
        rw [itemsR, hv, ← hdt] at hR
        have HR2 : Hid ((if hdB (s.drop q2) = 93 then .ok (acc ++ [v]) (s.drop q2).tail else (takeR 44 (s.drop q2)).bind fun _ u => itemsR (valR d) 93 n (skipJ u) (acc ++ [v])) = R) := Lib.hid (by rw [HDr.out]; exact hR)
        have HL7 := Lib.hid ((HK4.out v un uk hkc hjo).gx HG7.out hbj)
        have HG8 := Lib.hid (HK2.out.trans HG7.out)
        have HZ8 : Hid (W7.heap[rv]? = some (.cells zeroC.toArray 46 (0, 0))) := Lib.hid (HG7.out.heap (by have := HRb.out; simp; omega) HZ5.out)
        have HH : Hid (en2 = decide (hdB (s.drop q2) = 93)) := Lib.hid (by rw [← HEn.out]; exact is_hd (by decide))
        have hq2l : q2 ≤ s.length := by omega
        clear hv hkc hjo hdt hR HRes HR HDr HK1 HK2 HK4 HZ5 HG7 HVn hc haa
        cases en2 with
        | true =>
          have HNext : Hid (LiS d b s a R w rv jb (g - 1) true W7) := Lib.hid (by
            have h1 := (is_iff s q2 93).1 HEn.out
            have hh : hdB (s.drop q2) = 93 := of_decide_eq_true HH.out.symm
            have hR := HR2.out
            rw [if_pos hh, drop_at h1.1] at hR
            exact ⟨HG8.out, HZ8.out, .inl ⟨q2, acc ++ [v], ⟨_, _, _, HL7.out⟩, HS7.out, hq2l, by simp; omega, .inl ⟨rfl, h1.1, hR.symm⟩⟩⟩)
          clear HR2 HL7 HG8 HZ8 HH HEn HS7
          go_wp2_with fail
          go_roundg g
          case measure => omega
          case rel => exact ⟨g - 1, true, by omega, rfl, HNext⟩
        | false =>
          have hh : ¬ hdB (s.drop q2) = 93 := of_decide_eq_false HH.out.symm
          have hR := HR2.out
          rw [if_neg hh, take_at] at hR
          have HR3 := Lib.hid hR
          have HWt := Lib.hid (want_any b s q2 0 a 44 W7 HS7.out (by omega))
          rw [show (((44 : UInt8).toNat : Nat) : Int) = 44 from rfl] at HWt
          clear hR hh HR2 HEn HH
          go_wp2_with fail
          refine HWt.out.mono ?_
          rintro e W8 ⟨rfl, hg8, hs8⟩
          have HG9 := Lib.hid hg8
          clear hg8 HWt
          by_cases hw44 : isB s q2 44 = true
          · rw [if_pos hw44] at hs8
            have h44 := ((is_iff s q2 44).1 hw44).1
            have HR4 : Hid (itemsR (valR d) 93 n (skipJ (s.drop (q2 + 1))) (acc ++ [v]) = R) := Lib.hid (by rw [← HR3.out, if_pos hw44]; rfl)
            have HBk := Lib.hid (rblanks_any b s (q2 + 1) 0 a W8 hs8 (by omega) (by omega))
            clear hs8 hw44 HR3
            go_wp2_with fail
            refine HBk.out.mono ?_
            rintro e W9 ⟨rfl, hg10, q3, hq23, hq3, hdr3, hs9⟩
            have HNext : Hid (LiS d b s a R w rv jb (g - 1) false W9) := Lib.hid (by
              have hgg := HG9.out.trans hg10
              refine ⟨HG8.out.trans hgg, hgg.heap (by have := HRb.out; simp; omega) HZ8.out, .inl ⟨q3, acc ++ [v], ⟨_, _, _, HL7.out.gx hgg hbj⟩, hs9, by omega, by simp; omega, .inr ⟨rfl, n, by omega, by omega, ?_⟩⟩⟩
              rw [show s.drop q3 = skipJ (s.drop (q2 + 1)) from hdr3]
              exact HR4.out)
            clear hg10 hdr3 hs9 HBk HR4 HG8 HG9 HL7 HZ8 x2 HS7
            go_wp2_with fail
            go_roundg g
            case measure => omega
            case rel => exact ⟨g - 1, false, by omega, rfl, HNext⟩
          · rw [if_neg hw44] at hs8
            have HR4 : Hid (R = .bad 54 (s.length - q2)) := Lib.hid (by rw [← HR3.out, if_neg hw44]; rfl)
            have hs8 : ScB W8 b s q2 54 (q2 : Int) := by simpa [keepE] using hs8
            have HBk := Lib.hid (rblanks_any b s q2 54 (q2 : Int) W8 hs8 (by omega) (by omega))
            clear hs8 hw44 HR3
            go_wp2_with fail
            refine HBk.out.mono ?_
            rintro e W9 ⟨rfl, hg10, q3, hq23, hq3, hdr3, hs9⟩
            have HNext : Hid (LiS d b s a R w rv jb (g - 1) false W9) := Lib.hid (by
              have hgg := HG9.out.trans hg10
              have hL9 := HL7.out.gx hgg hbj
              refine ⟨HG8.out.trans hgg, hgg.heap (by have := HRb.out; simp; omega) HZ8.out, .inr ⟨q3, 54, (q2 : Int), 54, s.length - q2, vn, _, hL9.blk, ?_, ⟨_, _, _, rfl⟩, hs9, by omega, HR4.out, by decide, rfl, by omega⟩⟩
              obtain ⟨A', c', h, _⟩ := row_cells hL9.nrow (by simp)
              exact ⟨_, _, _, h⟩)
            clear hg10 hdr3 hs9 HBk HR4 HG8 HG9 HL7 HZ8 x2 HS7
            go_wp2_with fail
            go_roundg g
            case measure => omega
            case rel => exact ⟨g - 1, false, by omega, rfl, HNext⟩
end Go.Proofs.YtlhhiiemojhjdaaGreatDoor
