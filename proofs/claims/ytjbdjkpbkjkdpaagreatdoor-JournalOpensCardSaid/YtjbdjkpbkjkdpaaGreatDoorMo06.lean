/- Texts of this proof, laid into one: JnE, JnF, JoA, JoB. -/
import Derived.Test.YtjbdjkpbkjkdpaaGreatDoorMo05
import Derived.Lib.AppendStr
/- A journal's load, epochOf. -/
set_option linter.unusedVariables false
set_option linter.unusedSimpArgs false
namespace Go.Proofs.YtjbdjkpbkjkdpaaGreatDoor
open Go Go.RowKit
theorem Read_good {w0 w : World} {bd bp gh : Nat} {d : DskS} (k : Nat) (h : DAt w0 w bd bp gh d) (hw : d.wait.length ≤ 1000000) (hr : readyC d (k : Int) = 0) :
    Calls Tryz.prog 67 #[.pointer (some ⟨bd, 0, none⟩), .int .i64 (k : Int)] w fun e w' => e = .returned (.tuple #[.string ⟨(readL d k).toArray⟩, .nilIface]) ∧ Q w w' := by
  refine (Read_any (k : Int) h hw).mono ?_
  rintro e w1 ⟨⟨v, rfl, hv⟩, hq⟩
  rw [hr] at hv
  rcases hv with ⟨_, rfl⟩ | ⟨hc, _⟩
  · refine ⟨?_, hq⟩
    unfold readD
    rw [if_pos hr, Int.toNat_natCast]
  · exact absurd rfl hc
/-- Bytes of the call's own, in a row that nothing froze. -/
def OwnR (w0 w : World) (v : Value) (b : List UInt8) : Prop := w.ownsRow w0.heap.size 5 1 v b.length (b.map u8V)
theorem OwnR.nil (w0 w : World) : OwnR w0 w (.slice none 0 0) [] := ⟨rfl, .inl ⟨rfl, rfl⟩⟩
theorem OwnR.q {w0 w w' : World} {v : Value} {b : List UInt8} (h : OwnR w0 w v b) (hq : Q w w') : OwnR w0 w' v b := by
  refine ⟨h.1, ?_⟩
  rcases h.2 with h2 | ⟨g, cap, cur, hv, h1, h2, h3⟩
  · exact .inl h2
  · exact .inr ⟨g, cap, cur, hv, h1, hq.block h2, h3⟩
theorem OwnR.block {w0 w : World} {v : Value} {b : List UInt8} (h : OwnR w0 w v b) {k : Nat} (hk : v.ownBlock = some k) : w0.heap.size ≤ k := by
  rcases h.2 with ⟨rfl, _⟩ | ⟨g, cap, cur, rfl, h1, _⟩
  · cases hk
  · simp [Value.ownBlock] at hk; omega
/-- append(b, s...) out of a text. -/
theorem wpList_append_str {ops : Array Oper} {rest : List Oper} {o : Oper} {a : Act} {R : Exit → Act → World → Prop} (hgd : o.guard = none) (sl x : Operand)
    (ho : o.op = .call { callee := .builtin .append, args := #[sl, x], argTypes := #[69, 9] })
    (w0 W : World) (v : Value) (b s : List UInt8) (hs : a.eval sl = v) (hown : OwnR w0 W v b) (hx : a.eval x = .string ⟨s.toArray⟩) (hb : b.length + s.length ≤ 140737488355328) (hq : Q w0 W)
    (h : ∀ v' w', OwnR w0 w' v' (b ++ s) → Q w0 w' → wpList Tryz.prog ops R rest (a.put o.dst v') w') : wpList Tryz.prog ops R (o :: rest) a W := by
  obtain ⟨i, hi, hz, hsz, hby⟩ := info_parts info_u8
  have hss : (ByteArray.mk s.toArray).size = s.length := rfl
  refine Lib.wpList_append_own_string (w := W) hgd sl x 69 9 ho w0.heap.size 5 i Tryz.underlying69 Tryz.underlying9 hi hz hsz hby v b.length (b.map u8V) hs hown ⟨s.toArray⟩ hx (by rw [hss]; unfold maxLen; omega) (by rw [hss]; omega) hq.size ?_
  intro v' w' h2 hg _
  refine h v' w' ?_ (gb_q_own hg hq (fun k hk => hown.block hk))
  unfold OwnR
  rw [List.map_append, List.length_append]
  exact h2
/-- What a half reads as. -/
def halfL (j : JrnS) (sec : Bool) (d : DskS) (k : Nat) : List UInt8 := (List.range k).flatMap fun i => readL d (atJ j sec i)
theorem halfL_succ (j : JrnS) (sec : Bool) (d : DskS) (k : Nat) : halfL j sec d (k + 1) = halfL j sec d k ++ readL d (atJ j sec k) := by simp [halfL, List.range_succ]
theorem readL_len {d : DskS} (h : d.Ok) {k : Nat} (hk : k < d.n) : (readL d k).length = 64 := by
  unfold readL
  split
  · rename_i p hp
    exact (h.wait p (List.mem_reverse.1 (List.mem_of_find?_eq_some hp))).2
  · rw [length_sub, h.len]; omega
theorem halfL_len {j : JrnS} {sec : Bool} {d : DskS} (h : d.Ok) (hp : j.first + 2 * j.half ≤ d.n) (k : Nat) : k ≤ j.half → (halfL j sec d k).length = 64 * k := by
  induction k with
  | zero => intro _; rfl
  | succ k ih =>
    intro hk
    rw [halfL_succ, List.length_append, ih (by omega), readL_len h (by unfold atJ; split <;> omega)]
    omega
set_option maxRecDepth 100000 in
set_option maxHeartbeats 4000000 in
theorem load_any {w0 w : World} {bj bd bp gh : Nat} {j : JrnS} {d : DskS} (sec : Bool) (h : JD w0 w bj bd bp gh j d) (hp : j.first + 2 * j.half ≤ d.n) (hw : d.wait.length ≤ 900000) (hg : d.gone = false ∧ d.dead = false) (h0 : w0.heap.size ≤ w.heap.size) :
    Calls Tryz.prog 39 #[.pointer (some ⟨bj, 0, none⟩), .bool sec] w fun e w' => e = .returned (.tuple #[.string ⟨(halfL j sec d j.half).toArray⟩, .nilIface]) ∧ Q w w' := by
  have HJ := Lib.hid h
  have hn8 := h.d.ok.most
  have hok := Lib.hid h.d.ok
  have hrd : Hid (∀ k, k < j.half → readyC d (atJ j sec k : Int) = 0) := Lib.hid (fun k hk => by
    unfold readyC
    rw [hg.1, hg.2, if_neg (by simp), if_neg (by simp), if_neg]
    have : atJ j sec k < d.n := by unfold atJ; split <;> omega
    omega)
  have c2 := h.j.c2
  obtain ⟨m, hm⟩ : ∃ m, j.half = m := ⟨_, rfl⟩
  have HM := Lib.hid hm
  rw [hm] at c2 hrd hp ⊢
  have hmi : (m : Int) ≤ 8192 := by omega
  have HPL := Lib.hid hp
  clear h hm hg
  go_enter Tryz.func39, Tryz.ntmps39
  go_wp2_with fail
  clear c2
  go_loopw [6, 14] (fun v i wr => ∃ k : Nat, k ≤ m ∧ i = .int .i64 (k : Int) ∧ Hid (OwnR w wr v (halfL j sec d k)) ∧ Hid (Q w wr)) (fun _ i _ => m - (intOf i).toNat)
  case atStart => exact ⟨0, by omega, rfl, OwnR.nil _ _, Q.refl _⟩
  case round =>
    obtain ⟨k, hk, rfl, HO, HQ⟩ := hrel
    by_cases hlt : k < m
    · have g1 : decide (k < m) = true := by simpa using hlt
      have HJr := Lib.hid (HJ.out.q HQ.out)
      go_upto_region 5 with (fail)
      have k0 : ∀ m : QW wr, m.val.cell? ⟨bj, 0, none⟩ = some (.pointer (some ⟨bd, 0, none⟩)) := fun m => m.cell HJr.out.j.c0
      have HAT := Lib.hid (fun m : QW wr => at_any (HJr.out.j.q m.le) sec k (by have := HM.out; omega))
      have HRD := Lib.hid (fun m : QW wr => Read_good (atJ j sec k) (HJr.out.d.q m.le) (by omega) (hrd.out k hlt))
      refine wp_region_q (by kernel_rfl) (by kernel_rfl) ?_
      (repeat (go_big_quiet_step (first | (go_at_call 68; exact calls_qs (HAT.out _)) | (go_at_call 67; exact calls_q (HRD.out _)))))
      refine wpQuiet_nil ?_
      rintro wa ⟨ma, hma⟩
      have hqa : Q wr wa := by rw [hma]; exact ma.le
      have HOa := Lib.hid (HO.out.q hqa)
      have HQa := Lib.hid (HQ.out.trans hqa)
      have hl1 : (readL d (atJ j sec k)).length = 64 := readL_len hok.out (by have := HPL.out; unfold atJ; have := HM.out; split <;> omega)
      have hl2 : (halfL j sec d k).length = 64 * k := halfL_len hok.out (by rw [HM.out]; exact HPL.out) k (by rw [HM.out]; exact hk)
      have HL1 := Lib.hid hl1
      have HL2 := Lib.hid hl2
      clear hma ma hqa k0 HAT HRD hl1 hl2 HO HQ
      go_wp2_with (at_builtin; refine wpList_append_str rfl (.tmp 32) (.tmp 33) rfl w wa _ (halfL j sec d k) (readL d (atJ j sec k)) (by rfl) HOa.out (by rfl) (by rw [HL1.out, HL2.out]; omega) HQa.out ?_; intro v5 w5 ho5 hq5; have HO5 := Lib.hid ho5; have HQ5 := Lib.hid hq5; clear ho5 hq5)
      go_roundw
      case rel => exact ⟨k + 1, hlt, by go_num, by rw [halfL_succ]; exact HO5.out, HQ5.out⟩
      case measure => simp [intOf]; omega
    · have g1 : decide (k < m) = false := by simpa using hlt
      obtain rfl : k = m := by omega
      have hcv := conv_b (OwnB.of_row HO.out)
      obtain ⟨A, cp, hv, _⟩ := (OwnB.of_row HO.out).form
      subst hv
      clear hlt
      go_wp2_with fail
      go_ret2
      exact ⟨rfl, HQ.out⟩
end Go.Proofs.YtjbdjkpbkjkdpaaGreatDoor
/- A half's epoch. -/
set_option linter.unusedVariables false
set_option linter.unusedSimpArgs false
namespace Go.Proofs.YtjbdjkpbkjkdpaaGreatDoor
open Go Go.RowKit
instance (s : List UInt8) (e n : Int) : Decidable (UnpOk s e n) := by unfold UnpOk; infer_instance
/-- The number of eight bytes, unless it is too great. -/
def eGo : List UInt8 → Nat → Option Nat
  | [], e => some e
  | c :: r, e => if 18014398509481984 < e then none else eGo r (e * 256 + c.toNat)
def payL (s : List UInt8) : List UInt8 := sub s 24 (24 + nAt s 4)
def isHead (h : List UInt8) (e : Nat) : Bool := decide (UnpOk h (e : Int) 0) && decide (payL h = magicL)
def epN (s : List UInt8) : Nat := match eGo (sub s 12 20) 0 with | none => 0 | some e => if isHead (sub s 0 64) e then e else 0
theorem Unpack_any (s : List UInt8) (e n : Int) (w : World) (hl : s.length ≤ 281474976710656) :
    Calls Tryz.prog 43 #[.string ⟨s.toArray⟩, .int .i64 e, .int .i64 n] w fun x w' => ((UnpOk s e n ∧ x = .returned (.tuple #[.string ⟨(payL s).toArray⟩, .int .i64 (endsN (nAt s 4)), .nilIface])) ∨ (¬ UnpOk s e n ∧ ∃ b, x = .returned (.tuple #[.string ⟨#[]⟩, .int .i64 0, .iface 92 (.pointer (some ⟨b, 0, none⟩))]))) ∧ Q w w' := by
  by_cases h : UnpOk s e n
  · exact (Unpack_ok s e n w hl h).mono fun x w' ⟨hx, hq⟩ => ⟨.inl ⟨h, hx⟩, hq⟩
  · refine (Unpack_bad s e n w hl h).mono fun x w' ⟨ev, hx, he, hq⟩ => ⟨.inr ⟨h, ?_⟩, hq⟩
    rcases he with ⟨hc, _⟩ | ⟨_, b, rfl, _⟩
    · cases hc
    · exact ⟨b, hx⟩
theorem eGo_bound (l : List UInt8) : ∀ (e : Nat), e ≤ 4611686018427387903 + 256 → ∀ r, eGo l e = some r → r ≤ 4611686018427387904 + 255 := by
  induction l with
  | nil => intro e he r h; simp [eGo] at h; omega
  | cons c t ih =>
    intro e he r h
    have hc := c.toNat_lt
    unfold eGo at h
    split at h
    · cases h
    · exact ih _ (by omega) r h
set_option maxRecDepth 100000 in
set_option maxHeartbeats 4000000 in
theorem epochOf_any (s : List UInt8) (w : World) (h64 : 64 ≤ s.length) (hl : s.length ≤ 10000000) :
    Calls Tryz.prog 41 #[.string ⟨s.toArray⟩] w fun e w' => e = .returned (.int .i64 (epN s : Int)) ∧ Q w w' := by
  have hl8 : (sub s 12 20).length = 8 := by rw [length_sub]; omega
  obtain ⟨v, W1, hcv, hown, hq, cap, hv⟩ := bytes_of (sub s 12 20) w (by omega)
  subst hv
  have HE : Hid (epN s = epN s) := rfl
  obtain ⟨N, hN⟩ : ∃ N, epN s = N := ⟨_, rfl⟩
  have HN := Lib.hid hN
  unfold epN at HN
  rw [hN]
  obtain ⟨b, hb⟩ : ∃ b, sub s 12 20 = b := ⟨_, rfl⟩
  rw [hb] at hl8 hcv hown HN
  obtain ⟨g, cp, hv2, hg0, hcp, hcm, hcell⟩ := hown.pos (by omega)
  injection hv2 with e1 e2 e3
  injection e1 with e1
  injection e1 with e1 _ _
  subst e3
  rw [e1] at hcv
  rw [hl8] at hcv
  have hcell8 : Hid (∀ i, i < 8 → W1.cell? ⟨g, i, none⟩ = some (.int .u8 ((gB b i).toNat : Int))) := Lib.hid (fun i hi => (hcell i (by omega)).1)
  have HB8 := Lib.hid hl8
  have HQ := Lib.hid hq
  clear hcell hown hN hl8 hg0 hcp hcm e1 e2 HE hq
  go_enter Tryz.func41, Tryz.ntmps41
  go_wp2_with fail
  go_loopw [3, 13] (fun ev i wr => ∃ (k e : Nat), k ≤ 8 ∧ i = .int .i64 (k : Int) ∧ ev = .int .i64 (e : Int) ∧ e ≤ 4611686018427387904 + 255 ∧ Hid (eGo b 0 = eGo (b.drop k) e) ∧ Hid (Q W1 wr)) (fun _ i _ => 8 - (intOf i).toNat)
  case atStart => exact ⟨0, 0, by omega, rfl, rfl, by omega, rfl, Q.refl _⟩
  case round =>
    obtain ⟨k, e, hk, rfl, rfl, he, HG, HQr⟩ := hrel
    by_cases hlt : k < 8
    · have g1 : decide ((k : Int) < 8) = true := by simp; omega
      have hc := HQr.out.cell (hcell8.out k hlt)
      obtain ⟨c, hcc⟩ : ∃ c, gB b k = c := ⟨_, rfl⟩
      have hdr : b.drop k = c :: b.drop (k + 1) := by
        have := HB8.out
        rw [List.drop_eq_getElem_cons (by omega)]
        congr 1
        rw [← hcc]; simp [gB, List.getD, show k < b.length by omega]
      rw [hdr, eGo] at HG
      rw [hcc] at hc
      have hc256 := c.toNat_lt
      clear hdr hcc
      by_cases hbig : 18014398509481984 < e
      · have g2 : decide ((18014398509481984 : Int) < (e : Int)) = true := by simp; omega
        rw [if_pos hbig] at HG
        rw [HG.out] at HN
        clear hbig
        go_wp2_with fail
        go_ret
        exact ⟨by rw [← HN.out]; rfl, HQ.out.trans HQr.out⟩
      · have g2 : decide ((18014398509481984 : Int) < (e : Int)) = false := by simp; omega
        rw [if_neg hbig] at HG
        have hor : bits .or .i64 ((e : Int) * 256) (c.toNat : Int) = (e : Int) * 256 + (c.toNat : Int) := or_i64 8 ((e : Int) * 256) (c.toNat : Int) (by omega) (by omega) (by omega) (by omega) (by omega) (by omega)
        go_wp2_with fail
        go_roundw
        case rel => exact ⟨k + 1, e * 256 + c.toNat, by omega, by go_num, by rw [show ((e * 256 + c.toNat : Nat) : Int) = (e : Int) * 256 + (c.toNat : Int) by omega], by omega, HG.out, HQr.out⟩
        case measure => simp [intOf]; omega
    · have g1 : decide ((k : Int) < 8) = false := by simp; omega
      obtain rfl : k = 8 := by omega
      rw [List.drop_of_length_le (by have := HB8.out; omega)] at HG
      have hG : eGo b 0 = some e := HG.out
      rw [hG] at HN
      have HN2 : Hid ((if isHead (sub s 0 64) e = true then e else 0) = N) := Lib.hid HN.out
      have hl64 : (sub s 0 64).length = 64 := by rw [length_sub]; omega
      have HU := Lib.hid (fun w => Unpack_any (sub s 0 64) (e : Int) 0 w (by rw [hl64]; omega))
      obtain ⟨h, hh⟩ : ∃ h, sub s 0 64 = h := ⟨_, rfl⟩
      rw [hh] at HU HN2
      clear HG hG HN hl64 hlt
      go_wp2_with fail
      refine (HU.out wr).mono ?_
      rintro x w5 ⟨⟨hu, rfl⟩ | ⟨hu, b5, rfl⟩, hq5⟩
      · by_cases hp : payL h = magicL
        · have g3 : (payL h == [106, 111, 117, 114, 110, 97, 108]) = true := by simpa [magicL] using hp
          have hi : isHead h e = true := by unfold isHead; rw [decide_eq_true hu, decide_eq_true hp]; rfl
          rw [hi] at HN2
          have HN3 := HN2.out
          rw [if_pos rfl] at HN3
          have HN4 := Lib.hid HN3
          clear HN3
          clear hp hu hi
          go_wp2_with fail
          go_ret
          exact ⟨by rw [← HN4.out]; rfl, (HQ.out.trans HQr.out).trans hq5⟩
        · have g3 : (payL h == [106, 111, 117, 114, 110, 97, 108]) = false := by simpa [magicL] using hp
          have hi : isHead h e = false := by unfold isHead; rw [decide_eq_false hp, Bool.and_false]
          rw [hi] at HN2
          have HN3 := HN2.out
          rw [if_neg (by decide)] at HN3
          have HN4 := Lib.hid HN3
          clear HN3
          clear hp hu hi
          go_wp2_with fail
          go_ret
          exact ⟨by rw [← HN4.out]; rfl, (HQ.out.trans HQr.out).trans hq5⟩
      · have hi : isHead h e = false := by unfold isHead; rw [decide_eq_false hu, Bool.false_and]
        rw [hi] at HN2
        have HN3 := HN2.out
        rw [if_neg (by decide)] at HN3
        have HN4 := Lib.hid HN3
        clear HN3
        clear hu hi
        go_wp2_with fail
        go_ret
        exact ⟨by rw [← HN4.out]; rfl, (HQ.out.trans HQr.out).trans hq5⟩
end Go.Proofs.YtjbdjkpbkjkdpaaGreatDoor
/- The document's Unpack. -/
set_option linter.unusedVariables false
set_option linter.unusedSimpArgs false
namespace Go.Proofs.YtjbdjkpbkjkdpaaGreatDoor
open Go Go.RowKit
theorem gB_sub_to (l : List UInt8) (k i : Nat) : gB (sub l k l.length) i = gB l (k + i) := by
  unfold gB sub; rw [List.take_length]; simp [List.getD, List.getElem?_drop]
theorem nAt_gB (l : List UInt8) (k : Nat) : (nAt l k : Int) = (gB l k).toNat * 16777216 + (gB l (k + 1)).toNat * 65536 + (gB l (k + 2)).toNat * 256 + (gB l (k + 3)).toNat := by
  rw [← nAt_r32]; unfold r32; rw [gB_sub_to, gB_sub_to, gB_sub_to, gB_sub_to]; rfl
set_option maxHeartbeats 1000000 in
theorem Read32_any (l : List UInt8) (k : Nat) (w : World) (h0 : k + 4 ≤ l.length) (h1 : k ≤ 1000) :
    Calls Tryz.prog 86 #[.string ⟨l.toArray⟩, .int .i64 (k : Int)] w fun e w' => e = .returned (.int .i64 (nAt l k : Int)) ∧ Q w w' := by
  have b0 := gB_lt l k
  have b1 := gB_lt l (k + 1)
  have b2 := gB_lt l (k + 2)
  have b3 := gB_lt l (k + 3)
  have hr : bits .or .i64 (bits .or .i64 (bits .or .i64 (((gB l k).toNat : Int) * 16777216) (((gB l (k + 1)).toNat : Int) * 65536)) (((gB l (k + 2)).toNat : Int) * 256)) ((gB l (k + 3)).toNat : Int) = (nAt l k : Int) :=
    (or_four _ _ _ _ (by omega) (by omega) (by omega) (by omega) (by omega) (by omega) (by omega) (by omega)).trans (nAt_gB l k).symm
  have d0 : decide (k < l.length) = true := by simp; omega
  have d1 : decide ((k : Int) + 1 < (l.length : Int)) = true := by simp; omega
  have d2 : decide ((k : Int) + 2 < (l.length : Int)) = true := by simp; omega
  have d3 : decide ((k : Int) + 3 < (l.length : Int)) = true := by simp; omega
  have p1 : 0 ≤ (k : Int) + 1 := by omega
  have p2 : 0 ≤ (k : Int) + 2 := by omega
  have p3 : 0 ≤ (k : Int) + 3 := by omega
  have t1 : ((k : Int) + 1).toNat = k + 1 := by omega
  have t2 : ((k : Int) + 2).toNat = k + 2 := by omega
  have t3 : ((k : Int) + 3).toNat = k + 3 := by omega
  have hk : (k : Int) ≤ 1000 := by omega
  go_enter Tryz.func86, Tryz.ntmps86
  go_wp2_with fail
  refine wp_region_q (by kernel_rfl) (by kernel_rfl) ?_
  repeat (go_big_quiet_step (fail))
  refine wpQuiet_nil ?_
  rintro _ ⟨⟨w1, hq1⟩, rfl⟩
  go_wp2_with fail
  go_ret
  exact ⟨rfl, hq1⟩
/-- What it says. -/
def RUp (s : List UInt8) (e n : Int) (x : Ending) : Prop := (UnpOk s e n ∧ x = .returned (.tuple #[.string ⟨(payL s).toArray⟩, .int .i64 (endsN (nAt s 4)), .bool true])) ∨ (¬ UnpOk s e n ∧ x = .returned (.tuple #[.string ⟨#[]⟩, .int .i64 0, .bool false]))
set_option maxRecDepth 100000 in
set_option maxHeartbeats 2000000 in
theorem RUnpack_bad1 (s : List UInt8) (e n : Int) (w : World) (hl : s.length ≤ 281474976710656) (h : rightB e n = false ∨ s.length < 24 ∨ (gB s 0).toNat ≠ 1) :
    Calls Tryz.prog 50 #[.string ⟨s.toArray⟩, .int .i64 e, .int .i64 n] w fun x w' => RUp s e n x ∧ Q w w' := by
  have hn : ¬ UnpOk s e n := by
    rintro ⟨a, b, c, _⟩
    rcases h with h | h | h
    · rw [h] at a; cases a
    · omega
    · exact h c
  have HR : RUp s e n (.returned (.tuple #[.string ⟨#[]⟩, .int .i64 0, .bool false])) := .inr ⟨hn, rfl⟩
  have HRR := Lib.hid HR
  clear hn HR
  by_cases h24 : s.length < 24
  · have d0 : decide ((s.length : Int) < 24) = true := by simp; omega
    clear h
    go_enter Tryz.func50, Tryz.ntmps50
    go_wp2_with fail
    go_ret3
    exact ⟨HRR.out, Q.refl _⟩
  have d0 : decide ((s.length : Int) < 24) = false := by simp; omega
  by_cases h1 : (gB s 0).toNat = 1
  case neg =>
    have b1 : (((gB s 0).toNat : Int) != 1) = true := by simp; omega
    clear h h1
    go_enter Tryz.func50, Tryz.ntmps50
    go_wp2_with fail
    go_ret3
    exact ⟨HRR.out, Q.refl _⟩
  have b1 : (((gB s 0).toNat : Int) != 1) = false := by simp [h1]
  have hr : rightB e n = false := by rcases h with h | h | h; exact h; exact absurd h h24; exact absurd h1 h
  clear h h1
  have hr2 := rightB_false hr
  clear hr
  by_cases e0 : e < 0
  · have g1 : decide (e < 0) = true := decide_eq_true e0
    clear e0 hr2
    go_enter Tryz.func50, Tryz.ntmps50
    go_wp2_with fail
    go_ret3
    exact ⟨HRR.out, Q.refl _⟩
  have g1 : decide (e < 0) = false := decide_eq_false e0
  by_cases e1 : 4611686018427387904 < e
  · have g2 : decide (4611686018427387904 < e) = true := decide_eq_true e1
    clear e0 e1 hr2
    go_enter Tryz.func50, Tryz.ntmps50
    go_wp2_with fail
    go_ret3
    exact ⟨HRR.out, Q.refl _⟩
  have g2 : decide (4611686018427387904 < e) = false := decide_eq_false e1
  by_cases n0 : n < 0
  · have g3 : decide (n < 0) = true := decide_eq_true n0
    clear e0 e1 n0 hr2
    go_enter Tryz.func50, Tryz.ntmps50
    go_wp2_with fail
    go_ret3
    exact ⟨HRR.out, Q.refl _⟩
  have g3 : decide (n < 0) = false := decide_eq_false n0
  have n1 : 4294967295 < n := by omega
  have g4 : decide (4294967295 < n) = true := decide_eq_true n1
  clear e0 e1 n0 n1 hr2
  go_enter Tryz.func50, Tryz.ntmps50
  go_wp2_with fail
  go_ret3
  exact ⟨HRR.out, Q.refl _⟩
theorem sub_8_20 (s : List UInt8) (h : 20 ≤ s.length) : sub s 8 20 = sub s 8 12 ++ sub s 12 20 := by
  unfold sub
  rw [show s.take 12 = (s.take 20).take 12 by rw [List.take_take]; rfl]
  generalize s.take 20 = t
  rw [show t.drop 12 = (t.drop 8).drop 4 by rw [List.drop_drop]]
  rw [show (t.take 12).drop 8 = (t.drop 8).take 4 by rw [List.drop_take]]
  rw [List.take_append_drop]
set_option maxRecDepth 100000 in
set_option maxHeartbeats 2000000 in
theorem RUnpack_bad2 (s : List UInt8) (e n : Int) (w : World) (hl : s.length ≤ 281474976710656) (hr : rightB e n = true) (h24 : 24 ≤ s.length) (h1 : (gB s 0).toNat = 1) (h : 60000 < nAt s 4 ∨ s.length < endsN (nAt s 4)) :
    Calls Tryz.prog 50 #[.string ⟨s.toArray⟩, .int .i64 e, .int .i64 n] w fun x w' => RUp s e n x ∧ Q w w' := by
  have hn : ¬ UnpOk s e n := by rintro ⟨_, _, _, a, b, _⟩; omega
  have HR : RUp s e n (.returned (.tuple #[.string ⟨#[]⟩, .int .i64 0, .bool false])) := .inr ⟨hn, rfl⟩
  have HRR := Lib.hid HR
  clear hn HR
  (have l1 : ∀ k, (U32 k).length = 4 := length_U32); (obtain ⟨e0, e1, n0, n1⟩ := right_spec hr); (have d0 : decide ((s.length : Int) < 24) = false := by simp; omega); (have b1 : (((gB s 0).toNat : Int) != 1) = false := by simp [h1]); (have g1 : decide (e < 0) = false := decide_eq_false (by omega)); (have g2 : decide (4611686018427387904 < e) = false := decide_eq_false (by omega)); (have g3 : decide (n < 0) = false := decide_eq_false (by omega)); (have g4 : decide (4294967295 < n) = false := decide_eq_false (by omega))
  have HRD := Lib.hid (Read32_any s 4 w (by omega) (by omega))
  unfold endsN at h
  obtain ⟨N, hN⟩ : ∃ N, nAt s 4 = N := ⟨_, rfl⟩
  rw [hN] at h HRD
  clear h1 hN hr
  by_cases hN : 60000 < N
  · have d1 : decide (60000 < (N : Int)) = true := by simp; omega
    clear h hN
    go_enter Tryz.func50, Tryz.ntmps50
    go_wp2_with fail
    refine HRD.out.mono ?_
    rintro x w1 ⟨rfl, hq1⟩
    go_wp2_with fail
    go_ret3
    exact ⟨HRR.out, hq1⟩
  · have d1 : decide (60000 < (N : Int)) = false := by simp; omega
    have hN2 : (N : Int) ≤ 60000 := by omega
    have HS := Lib.hid (fun w => Sectors_any (24 + (N : Int)) w (by omega) (by omega))
    have hs : (s.length : Int) < (24 + (N : Int) + 63) / 64 * 64 := by omega
    have hs1 : 0 ≤ (24 + (N : Int) + 63) / 64 ∧ (24 + (N : Int) + 63) / 64 ≤ 1000 := by omega
    obtain ⟨K, hK⟩ : ∃ K, (24 + (N : Int) + 63) / 64 = K := ⟨_, rfl⟩
    rw [hK] at HS hs hs1
    have d2 : decide ((s.length : Int) < K * 64) = true := decide_eq_true hs
    clear h hN hK hs
    go_enter Tryz.func50, Tryz.ntmps50
    go_wp2_with fail
    refine HRD.out.mono ?_
    rintro x w1 ⟨rfl, hq1⟩
    go_wp2_with fail
    refine (HS.out _).mono ?_
    rintro x w2 ⟨rfl, rfl⟩
    go_wp2_with fail
    go_ret3
    exact ⟨HRR.out, hq1⟩
set_option maxRecDepth 100000 in
set_option maxHeartbeats 4000000 in
theorem RUnpack_rest (s : List UInt8) (e n : Int) (w : World) (hl : s.length ≤ 281474976710656) (hr : rightB e n = true) (h24 : 24 ≤ s.length) (h1 : (gB s 0).toNat = 1) (hN : nAt s 4 ≤ 60000) (hE : endsN (nAt s 4) ≤ s.length) :
    Calls Tryz.prog 50 #[.string ⟨s.toArray⟩, .int .i64 e, .int .i64 n] w fun x w' => RUp s e n x ∧ Q w w' := by
  have hU : UnpOk s e n ↔ (sub s 8 12 = U32 n ∧ sub s 12 20 = U32 (e / 4294967296) ++ U32 e ∧ (nAt s 20 : Int) = ((crcSum (sub s 4 20 ++ sub s 24 (24 + nAt s 4))).toNat : Int)) := by
    have e8 := sub_8_20 s (by omega)
    have hcr : crcSum (sub s 4 20 ++ sub s 24 (24 + nAt s 4)) = uCrc s := by unfold crcSum uCrc; rw [crcMore_append]; rfl
    unfold UnpOk
    rw [e8, hcr, nAt_r32]
    unfold tailL
    constructor
    · rintro ⟨_, _, _, _, _, a, b⟩
      obtain ⟨a1, a2⟩ := List.append_inj a (by rw [length_sub, length_U32]; omega)
      exact ⟨a1, a2, b⟩
    · rintro ⟨a, b, c⟩
      exact ⟨hr, h24, h1, hN, hE, by rw [a, b], c⟩
  have HU := Lib.hid hU
  have HRY : UnpOk s e n → RUp s e n (.returned (.tuple #[.string ⟨(payL s).toArray⟩, .int .i64 (endsN (nAt s 4)), .bool true])) := fun h => .inl ⟨h, rfl⟩
  have HRN : ¬ UnpOk s e n → RUp s e n (.returned (.tuple #[.string ⟨#[]⟩, .int .i64 0, .bool false])) := fun h => .inr ⟨h, rfl⟩
  unfold payL at HRY
  have HY := Lib.hid HRY
  have HNO := Lib.hid HRN
  clear HRY HRN hU
  (have l1 : ∀ k, (U32 k).length = 4 := length_U32); (obtain ⟨e0, e1, n0, n1⟩ := right_spec hr); (have d0 : decide ((s.length : Int) < 24) = false := by simp; omega); (have b1 : (((gB s 0).toNat : Int) != 1) = false := by simp [h1]); (have g1 : decide (e < 0) = false := decide_eq_false (by omega)); (have g2 : decide (4611686018427387904 < e) = false := decide_eq_false (by omega)); (have g3 : decide (n < 0) = false := decide_eq_false (by omega)); (have g4 : decide (4294967295 < n) = false := decide_eq_false (by omega))
  have HRD := Lib.hid (Read32_any s 4 w (by omega) (by omega))
  unfold endsN at hE HY
  obtain ⟨N, hNN⟩ : ∃ N, nAt s 4 = N := ⟨_, rfl⟩
  rw [hNN] at hE hN HRD HY HU
  have d1 : decide (60000 < (N : Int)) = false := by simp; omega
  have hN2 : (N : Int) ≤ 60000 := by omega
  have hN3 : (24 + (N : Int)).toNat = 24 + N := by omega
  have hN4 : 24 + (N : Int) ≤ (s.length : Int) := by omega
  have HS := Lib.hid (fun w => Sectors_any (24 + (N : Int)) w (by omega) (by omega))
  have hs : (24 + (N : Int) + 63) / 64 * 64 ≤ (s.length : Int) := by omega
  have hs1 : 0 ≤ (24 + (N : Int) + 63) / 64 ∧ (24 + (N : Int) + 63) / 64 ≤ 1000 := by omega
  have hs2 : ((N : Int) + 87) / 64 * 64 = (24 + (N : Int) + 63) / 64 * 64 := by omega
  obtain ⟨K, hK⟩ : ∃ K, (24 + (N : Int) + 63) / 64 = K := ⟨_, rfl⟩
  rw [hK] at HS hs hs1 hs2
  rw [hs2] at HY
  have d2 : decide ((s.length : Int) < K * 64) = false := decide_eq_false (by omega)
  have c1 := (crcSum (sub s 4 20 ++ sub s 24 (24 + N))).isLt
  clear hN hNN hK h1 hr hs2 hE
  go_enter Tryz.func50, Tryz.ntmps50
  go_wp2_with fail
  refine HRD.out.mono ?_
  rintro x w1 ⟨rfl, hq1⟩
  go_wp2_with fail
  refine (HS.out _).mono ?_
  rintro x w2 ⟨rfl, rfl⟩
  by_cases h3 : sub s 8 12 = U32 n
  case neg =>
    have b2 : (sub s 8 12 == U32 n) = false := by simpa using h3
    have HX := Lib.hid (HNO.out (fun h => h3 (HU.out.1 h).1))
    clear h3
    go_wp2_with fail
    refine wp_region_q (by kernel_rfl) (by kernel_rfl) ?_
    (repeat (go_big_quiet_step (first | (go_at_call 29; exact calls_q (U32_any _ _ (by omega) (by omega))) | (go_at_call 30; exact calls_q (U64_any _ _ (by omega) (by omega))) | (go_at_call 86; exact calls_q (Read32_any _ 20 _ (by omega) (by omega))) | (go_at_call 31; exact calls_qs (SumR_any _ _ (by rw [List.length_append, length_sub, length_sub]; omega))))))
    refine wpQuiet_nil ?_
    rintro _ ⟨⟨w3, hq3⟩, rfl⟩
    go_wp2_with fail
    go_ret3
    exact ⟨HX.out, hq1.trans hq3⟩
  have b2 : (sub s 8 12 == U32 n) = true := by simpa using h3
  by_cases h4 : sub s 12 20 = U32 (e / 4294967296) ++ U32 e
  case neg =>
    have b3 : (sub s 12 20 == U32 (e / 4294967296) ++ U32 e) = false := by simpa using h4
    have HX := Lib.hid (HNO.out (fun h => h4 (HU.out.1 h).2.1))
    clear h3 h4
    go_wp2_with fail
    refine wp_region_q (by kernel_rfl) (by kernel_rfl) ?_
    (repeat (go_big_quiet_step (first | (go_at_call 29; exact calls_q (U32_any _ _ (by omega) (by omega))) | (go_at_call 30; exact calls_q (U64_any _ _ (by omega) (by omega))) | (go_at_call 86; exact calls_q (Read32_any _ 20 _ (by omega) (by omega))) | (go_at_call 31; exact calls_qs (SumR_any _ _ (by rw [List.length_append, length_sub, length_sub]; omega))))))
    refine wpQuiet_nil ?_
    rintro _ ⟨⟨w3, hq3⟩, rfl⟩
    go_wp2_with fail
    go_ret3
    exact ⟨HX.out, hq1.trans hq3⟩
  have b3 : (sub s 12 20 == U32 (e / 4294967296) ++ U32 e) = true := by simpa using h4
  by_cases h5 : (nAt s 20 : Int) = ((crcSum (sub s 4 20 ++ sub s 24 (24 + N))).toNat : Int)
  case neg =>
    have b4 : ((nAt s 20 : Int) != ((crcSum (sub s 4 20 ++ sub s 24 (24 + N))).toNat : Int)) = true := by simpa using h5
    have HX := Lib.hid (HNO.out (fun h => h5 (HU.out.1 h).2.2))
    clear h3 h4 h5
    go_wp2_with fail
    refine wp_region_q (by kernel_rfl) (by kernel_rfl) ?_
    (repeat (go_big_quiet_step (first | (go_at_call 29; exact calls_q (U32_any _ _ (by omega) (by omega))) | (go_at_call 30; exact calls_q (U64_any _ _ (by omega) (by omega))) | (go_at_call 86; exact calls_q (Read32_any _ 20 _ (by omega) (by omega))) | (go_at_call 31; exact calls_qs (SumR_any _ _ (by rw [List.length_append, length_sub, length_sub]; omega))))))
    refine wpQuiet_nil ?_
    rintro _ ⟨⟨w3, hq3⟩, rfl⟩
    go_wp2_with fail
    go_ret3
    exact ⟨HX.out, hq1.trans hq3⟩
  have b4 : ((nAt s 20 : Int) != ((crcSum (sub s 4 20 ++ sub s 24 (24 + N))).toNat : Int)) = false := by simpa using h5
  have HX := Lib.hid (HY.out (HU.out.2 ⟨h3, h4, h5⟩))
  clear h3 h4 h5
  go_wp2_with fail
  refine wp_region_q (by kernel_rfl) (by kernel_rfl) ?_
  (repeat (go_big_quiet_step (first | (go_at_call 29; exact calls_q (U32_any _ _ (by omega) (by omega))) | (go_at_call 30; exact calls_q (U64_any _ _ (by omega) (by omega))) | (go_at_call 86; exact calls_q (Read32_any _ 20 _ (by omega) (by omega))) | (go_at_call 31; exact calls_qs (SumR_any _ _ (by rw [List.length_append, length_sub, length_sub]; omega))))))
  refine wpQuiet_nil ?_
  rintro _ ⟨⟨w3, hq3⟩, rfl⟩
  go_wp2_with fail
  refine wp_region_q (by kernel_rfl) (by kernel_rfl) ?_
  (repeat (go_big_quiet_step ((go_at_call 32; exact calls_qs (HS.out _)))))
  refine wpQuiet_nil ?_
  rintro _ ⟨⟨w4, hq4⟩, rfl⟩
  go_wp2_with fail
  go_ret3
  exact ⟨HX.out, (hq1.trans hq3).trans hq4⟩
theorem RUnpack_any (s : List UInt8) (e n : Int) (w : World) (hl : s.length ≤ 281474976710656) :
    Calls Tryz.prog 50 #[.string ⟨s.toArray⟩, .int .i64 e, .int .i64 n] w fun x w' => RUp s e n x ∧ Q w w' := by
  by_cases h1 : rightB e n = true ∧ 24 ≤ s.length ∧ (gB s 0).toNat = 1
  · obtain ⟨hr, h24, h1⟩ := h1
    by_cases h2 : nAt s 4 ≤ 60000 ∧ endsN (nAt s 4) ≤ s.length
    · exact RUnpack_rest s e n w hl hr h24 h1 h2.1 h2.2
    · exact RUnpack_bad2 s e n w hl hr h24 h1 (by omega)
  · refine RUnpack_bad1 s e n w hl ?_
    by_cases h2 : rightB e n = false
    · exact .inl h2
    · have h2 : rightB e n = true := by simpa using h2
      by_cases h3 : s.length < 24
      · exact .inr (.inl h3)
      · exact .inr (.inr fun h4 => h1 ⟨h2, by omega, h4⟩)
end Go.Proofs.YtjbdjkpbkjkdpaaGreatDoor
/- The document's epoch of a half. -/
set_option linter.unusedVariables false
set_option linter.unusedSimpArgs false
namespace Go.Proofs.YtjbdjkpbkjkdpaaGreatDoor
open Go Go.RowKit
theorem RUnpack_yes (s : List UInt8) (e n : Int) (w : World) (hl : s.length ≤ 281474976710656) (h : UnpOk s e n) :
    Calls Tryz.prog 50 #[.string ⟨s.toArray⟩, .int .i64 e, .int .i64 n] w fun x w' => x = .returned (.tuple #[.string ⟨(payL s).toArray⟩, .int .i64 (endsN (nAt s 4)), .bool true]) ∧ Q w w' :=
  (RUnpack_any s e n w hl).mono fun x w' ⟨hx, hq⟩ => ⟨by rcases hx with ⟨_, hx⟩ | ⟨hn, _⟩; exact hx; exact absurd h hn, hq⟩
theorem RUnpack_no (s : List UInt8) (e n : Int) (w : World) (hl : s.length ≤ 281474976710656) (h : ¬ UnpOk s e n) :
    Calls Tryz.prog 50 #[.string ⟨s.toArray⟩, .int .i64 e, .int .i64 n] w fun x w' => x = .returned (.tuple #[.string ⟨#[]⟩, .int .i64 0, .bool false]) ∧ Q w w' :=
  (RUnpack_any s e n w hl).mono fun x w' ⟨hx, hq⟩ => ⟨by rcases hx with ⟨hn, _⟩ | ⟨_, hx⟩; exact absurd hn h; exact hx, hq⟩
/-- The number of some bytes. -/
def valL (l : List UInt8) (e : Nat) : Nat := l.foldl (fun e c => e * 256 + c.toNat) e
theorem valL_ge (l : List UInt8) : ∀ e, e ≤ valL l e := by
  induction l with
  | nil => intro e; exact Nat.le_refl _
  | cons c r ih => intro e; have := ih (e * 256 + c.toNat); show e ≤ valL r (e * 256 + c.toNat); omega
theorem eGo_some (l : List UInt8) : ∀ e r, eGo l e = some r → r = valL l e := by
  induction l with
  | nil => intro e r h; simp [eGo] at h; exact h.symm
  | cons c t ih =>
    intro e r h
    unfold eGo at h
    split at h
    · cases h
    · exact ih _ _ h
theorem eGo_none (l : List UInt8) : ∀ e, eGo l e = none → 4611686018427387904 < valL l e := by
  induction l with
  | nil => intro e h; simp [eGo] at h
  | cons c t ih =>
    intro e h
    unfold eGo at h
    split at h
    · have := valL_ge t (e * 256 + c.toNat)
      show _ < valL t (e * 256 + c.toNat)
      omega
    · exact ih _ h
theorem list8 (l : List UInt8) (h : l.length = 8) : l = [gB l 0, gB l 1, gB l 2, gB l 3, gB l 4, gB l 5, gB l 6, gB l 7] := by
  match l, h with
  | [a, b, c, d, e, f, g, i], _ => rfl
theorem gB_sub12 (s : List UInt8) (i : Nat) (h : i < 8) : gB (sub s 12 20) i = gB s (12 + i) := by
  unfold gB sub
  simp [List.getD, List.getElem?_take, show 12 + i < 20 by omega]
theorem val_nAt (s : List UInt8) (h : 64 ≤ s.length) : valL (sub s 12 20) 0 = nAt s 12 * 4294967296 + nAt s 16 := by
  have hl : (sub s 12 20).length = 8 := by rw [length_sub]; omega
  rw [list8 _ hl]
  simp only [gB_sub12 s _ (by decide : 0 < 8), gB_sub12 s _ (by decide : 1 < 8), gB_sub12 s _ (by decide : 2 < 8), gB_sub12 s _ (by decide : 3 < 8), gB_sub12 s _ (by decide : 4 < 8), gB_sub12 s _ (by decide : 5 < 8), gB_sub12 s _ (by decide : 6 < 8), gB_sub12 s _ (by decide : 7 < 8)]
  have h1 := nAt_gB s 12
  have h2 := nAt_gB s 16
  simp only [valL, List.foldl_cons, List.foldl_nil]
  simp only [Nat.add_zero, Nat.reduceAdd] at h1 h2 ⊢
  omega
theorem isHead_right {h : List UInt8} {e : Nat} (hh : isHead h e = true) : e ≤ 4611686018427387904 := by
  unfold isHead at hh
  rw [Bool.and_eq_true] at hh
  have := right_spec (of_decide_eq_true hh.1).1
  omega
theorem epN_val (s : List UInt8) (h : 64 ≤ s.length) : epN s = if 1 ≤ nAt s 12 * 4294967296 + nAt s 16 ∧ nAt s 12 * 4294967296 + nAt s 16 ≤ 4611686018427387904 then (if isHead (sub s 0 64) (nAt s 12 * 4294967296 + nAt s 16) then nAt s 12 * 4294967296 + nAt s 16 else 0) else 0 := by
  have hv := val_nAt s h
  obtain ⟨V, hV⟩ : ∃ V, nAt s 12 * 4294967296 + nAt s 16 = V := ⟨_, rfl⟩
  rw [hV] at hv ⊢
  unfold epN
  cases he : eGo (sub s 12 20) 0 with
  | none =>
    have := eGo_none _ _ he
    rw [if_neg (by omega)]
  | some e =>
    have := eGo_some _ _ _ he
    rw [hv] at this
    subst this
    simp only
    by_cases h1 : 1 ≤ e ∧ e ≤ 4611686018427387904
    · rw [if_pos h1]
    · rw [if_neg h1]
      split
      · rename_i hh
        have := isHead_right hh
        omega
      · rfl
theorem cast_lin (x c y : Nat) : ((x * c + y : Nat) : Int) = (x : Int) * (c : Int) + (y : Int) := by simp
theorem or_32 (x y : Int) (hx0 : 0 ≤ x) (hx1 : x ≤ 2147483647) (hy0 : 0 ≤ y) (hy1 : y < 4294967296) : bits .or .i64 (x * 4294967296) y = x * 4294967296 + y := by
  have e : (2 : Int) ^ 32 = 4294967296 := by decide
  have e2 : (2 : Int) ^ 63 = 9223372036854775808 := by decide
  exact or_i64 32 (x * 4294967296) y (by omega) (by rw [e]; exact Int.mul_emod_left _ _) (by rw [e2]; omega) hy0 (by rw [e]; exact hy1) (by rw [e2]; omega)
set_option maxRecDepth 100000 in
set_option maxHeartbeats 4000000 in
theorem Repoch_any (s : List UInt8) (w : World) (h64 : 64 ≤ s.length) (hl : s.length ≤ 10000000) :
    Calls Tryz.prog 49 #[.string ⟨s.toArray⟩] w fun e w' => e = .returned (.int .i64 (epN s : Int)) ∧ Q w w' := by
  have hep := epN_val s h64
  obtain ⟨R, hR⟩ : ∃ R, epN s = R := ⟨_, rfl⟩
  rw [hR] at hep ⊢
  have d0 : decide (s.length < 64) = false := by simp; omega
  have hg := gB_lt s 12
  have n12 := nAt_gB s 12
  have n16 := nAt_gB s 16
  have g13 := gB_lt s 13
  have g14 := gB_lt s 14
  have g15 := gB_lt s 15
  have g16 := gB_lt s 16
  have g17 := gB_lt s 17
  have g18 := gB_lt s 18
  have g19 := gB_lt s 19
  simp only [Nat.reduceAdd] at n12 n16
  have hb16 : (nAt s 16 : Int) < 4294967296 := by omega
  have hb12 : (nAt s 12 : Int) < 4294967296 := by omega
  by_cases hbig : 128 ≤ (gB s 12).toNat
  · have g1 : decide ((128 : Int) ≤ ((gB s 12).toNat : Int)) = true := by simp; omega
    rw [if_neg (by omega)] at hep
    have HE := Lib.hid hep
    clear hep hR n12 n16 hbig g13 g14 g15 g16 g17 g18 g19 hb16 hb12
    go_enter Tryz.func49, Tryz.ntmps49
    go_wp2_with fail
    go_ret
    exact ⟨by rw [HE.out]; rfl, Q.refl _⟩
  have g1 : decide ((128 : Int) ≤ ((gB s 12).toNat : Int)) = false := by simp; omega
  have hb : (nAt s 12 : Int) ≤ 2147483647 := by omega
  have HR1 := Lib.hid (fun w => Read32_any s 12 w (by omega) (by omega))
  have HR2 := Lib.hid (fun w => Read32_any s 16 w (by omega) (by omega))
  obtain ⟨x, hx⟩ : ∃ x, nAt s 12 = x := ⟨_, rfl⟩
  obtain ⟨y, hy⟩ : ∃ x, nAt s 16 = x := ⟨_, rfl⟩
  rw [hx] at HR1 hep hb hb12
  rw [hy] at HR2 hep hb16
  have hor : bits .or .i64 ((x : Int) * 4294967296) (y : Int) = (x : Int) * 4294967296 + (y : Int) := or_32 (x : Int) (y : Int) (by omega) hb (by omega) hb16
  obtain ⟨V, hV⟩ : ∃ V : Nat, x * 4294967296 + y = V := ⟨_, rfl⟩
  have hV2 : (x : Int) * 4294967296 + (y : Int) = (V : Int) := by rw [← hV, cast_lin]; rfl
  rw [hV] at hep
  rw [hV2] at hor
  have hVb : (V : Int) ≤ 9223372036854775807 := by omega
  clear hbig n12 n16 g13 g14 g15 g16 g17 g18 g19 hx hy hb12 hR hV hV2 hb16 hVb
  by_cases h1 : V < 1
  · have g2 : decide ((V : Int) < 1) = true := decide_eq_true (by omega)
    rw [if_neg (by omega)] at hep
    have HE := Lib.hid hep
    clear hep h1
    go_enter Tryz.func49, Tryz.ntmps49
    go_wp2_with fail
    refine (HR1.out _).mono ?_
    rintro e w1 ⟨rfl, hq1⟩
    go_wp2_with fail
    refine (HR2.out _).mono ?_
    rintro e w2 ⟨rfl, hq2⟩
    go_wp2_with fail
    go_ret
    exact ⟨by rw [HE.out]; rfl, hq1.trans hq2⟩
  have g2 : decide ((V : Int) < 1) = false := decide_eq_false (by omega)
  by_cases h2 : 4611686018427387904 < V
  · have g3 : decide (4611686018427387904 < (V : Int)) = true := decide_eq_true (by omega)
    rw [if_neg (by omega)] at hep
    have HE := Lib.hid hep
    clear hep h1 h2
    go_enter Tryz.func49, Tryz.ntmps49
    go_wp2_with fail
    refine (HR1.out _).mono ?_
    rintro e w1 ⟨rfl, hq1⟩
    go_wp2_with fail
    refine (HR2.out _).mono ?_
    rintro e w2 ⟨rfl, hq2⟩
    go_wp2_with fail
    go_ret
    exact ⟨by rw [HE.out]; rfl, hq1.trans hq2⟩
  have g3 : decide (4611686018427387904 < (V : Int)) = false := decide_eq_false (by omega)
  rw [if_pos (by omega)] at hep
  have hl64 : (sub s 0 64).length = 64 := by rw [length_sub]; omega
  have HU1 := Lib.hid (fun w => RUnpack_yes (sub s 0 64) (V : Int) 0 w (by rw [hl64]; omega))
  have HU2 := Lib.hid (fun w => RUnpack_no (sub s 0 64) (V : Int) 0 w (by rw [hl64]; omega))
  obtain ⟨h, hh⟩ : ∃ h, sub s 0 64 = h := ⟨_, rfl⟩
  rw [hh] at HU1 HU2 hep
  have hl2 : 64 ≤ s.length := by omega
  have HE := Lib.hid hep
  clear hep h1 h2 hl64
  go_enter Tryz.func49, Tryz.ntmps49
  go_wp2_with fail
  refine (HR1.out _).mono ?_
  rintro e w1 ⟨rfl, hq1⟩
  go_wp2_with fail
  refine (HR2.out _).mono ?_
  rintro e w2 ⟨rfl, hq2⟩
  go_wp2_with fail
  by_cases hu : UnpOk h (V : Int) 0
  case neg =>
    have hi : isHead h V = false := by unfold isHead; rw [decide_eq_false hu, Bool.false_and]
    have hE := HE.out
    rw [hi, if_neg (by decide)] at hE
    have HE2 := Lib.hid hE
    refine (HU2.out w2 hu).mono ?_
    rintro e w3 ⟨rfl, hq3⟩
    clear hi hE hu hh
    go_wp2_with fail
    go_ret
    exact ⟨by rw [HE2.out]; rfl, (hq1.trans hq2).trans hq3⟩
  refine (HU1.out w2 hu).mono ?_
  rintro e w3 ⟨rfl, hq3⟩
  obtain ⟨p, hp⟩ : ∃ p, payL h = p := ⟨_, rfl⟩
  rw [hp]
  by_cases hm : p = magicL
  · have g4 : (p == [106, 111, 117, 114, 110, 97, 108]) = true := by simpa [magicL] using hm
    have hi : isHead h V = true := by unfold isHead; rw [decide_eq_true hu, hp, decide_eq_true hm]; rfl
    have hE := HE.out
    rw [hi, if_pos rfl] at hE
    have HE2 := Lib.hid hE
    clear hi hE hu hh hp hm
    go_wp2_with fail
    go_ret
    exact ⟨by rw [HE2.out]; rfl, (hq1.trans hq2).trans hq3⟩
  · have g4 : (p == [106, 111, 117, 114, 110, 97, 108]) = false := by simpa [magicL] using hm
    have hi : isHead h V = false := by unfold isHead; rw [hp, decide_eq_false hm, Bool.and_false]
    have hE := HE.out
    rw [hi, if_neg (by decide)] at hE
    have HE2 := Lib.hid hE
    clear hi hE hu hh hp hm
    go_wp2_with fail
    go_ret
    exact ⟨by rw [HE2.out]; rfl, (hq1.trans hq2).trans hq3⟩
end Go.Proofs.YtjbdjkpbkjkdpaaGreatDoor
