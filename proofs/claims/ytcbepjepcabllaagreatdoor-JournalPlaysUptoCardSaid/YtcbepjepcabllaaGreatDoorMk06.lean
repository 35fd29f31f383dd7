/- Texts of this proof, laid into one: JnD, JnE, JnF, JnG. -/
import Derived.Test.YtcbepjepcabllaaGreatDoorMk05
import Derived.Lib.AppendStr
import Derived.Deep.DeepCutAuto
/- A journal's Append. -/
set_option linter.unusedVariables false
set_option linter.unusedSimpArgs false
namespace Go.Proofs.YtcbepjepcabllaaGreatDoor
open Go Go.RowKit
/-- The numbers are small. -/
structure JrnS.Ok (j : JrnS) : Prop where
  place : j.first + 2 * j.half ≤ 8192
  half : 2 ≤ j.half
  next : 1 ≤ j.next ∧ j.next ≤ j.half
  many : j.many ≤ 100000
  epoch : 1 ≤ j.epoch ∧ j.epoch ≤ 4611686018427387904
set_option maxHeartbeats 400000 in
theorem Left_any {w : World} {bj bd : Nat} {j : JrnS} (h : JAt w bj bd j) (ho : j.Ok) :
    Calls Tryz.prog 13 #[.pointer (some ⟨bj, 0, none⟩)] w fun e w' => e = .returned (.int .i64 ((j.half - j.next : Nat) : Int)) ∧ Q w w' := by
  have k2 : ∀ m : QW w, m.val.cell? ⟨bj, 2, none⟩ = some (.int .i64 (j.half : Int)) := fun m => m.cell h.c2
  have k6 : ∀ m : QW w, m.val.cell? ⟨bj, 6, none⟩ = some (.int .i64 (j.next : Int)) := fun m => m.cell h.c6
  have b1 := ho.place
  have b2 := ho.next
  have b3 : (j.half : Int) ≤ 8192 := by omega
  have b4 : (j.next : Int) ≤ (j.half : Int) := by omega
  have e1 : ((j.half - j.next : Nat) : Int) = (j.half : Int) - (j.next : Int) := by omega
  rw [e1]
  clear h ho e1
  go_enter Tryz.func13, Tryz.ntmps13
  go_wp2_with fail
  refine wp_region_q (by kernel_rfl) (by kernel_rfl) ?_
  (repeat (go_big_quiet_step (fail)))
  refine wpQuiet_nil ?_
  rintro wa ⟨ma, hma⟩
  have hqa : Q w wa := by rw [hma]; exact ma.le
  go_wp2_with fail
  go_ret
  exact ⟨rfl, hqa⟩
theorem Half_any {w : World} {bj bd : Nat} {j : JrnS} (h : JAt w bj bd j) (ho : j.Ok) :
    Calls Tryz.prog 15 #[.pointer (some ⟨bj, 0, none⟩)] w fun e w' => e = .returned (.int .i64 ((j.half - 1 : Nat) : Int)) ∧ w = w' := by
  have k2 := h.c2
  have b1 := ho.place
  have b2 := ho.half
  have b3 : (j.half : Int) ≤ 8192 := by omega
  have e1 : ((j.half - 1 : Nat) : Int) = (j.half : Int) - 1 := by omega
  rw [e1]
  clear h ho e1
  go_enter Tryz.func15, Tryz.ntmps15
  go_wp2_with fail
  go_ret
  exact ⟨rfl, rfl⟩
theorem Epoch_any {w : World} {bj bd : Nat} {j : JrnS} (h : JAt w bj bd j) : Calls Tryz.prog 16 #[.pointer (some ⟨bj, 0, none⟩)] w fun e w' => e = .returned (.int .i64 (j.epoch : Int)) ∧ w = w' := by
  have k2 := h.c4
  clear h
  go_enter Tryz.func16, Tryz.ntmps16
  go_wp2_with fail
  go_ret
  exact ⟨rfl, rfl⟩
theorem Len_any {w : World} {bj bd : Nat} {j : JrnS} (h : JAt w bj bd j) : Calls Tryz.prog 17 #[.pointer (some ⟨bj, 0, none⟩)] w fun e w' => e = .returned (.int .i64 (j.many : Int)) ∧ w = w' := by
  have k2 := h.c5
  clear h
  go_enter Tryz.func17, Tryz.ntmps17
  go_wp2_with fail
  go_ret
  exact ⟨rfl, rfl⟩
/-- How many sectors a record has; the record that comes next. -/
def wantN (p : List UInt8) : Nat := (p.length + 87) / 64
def recL (j : JrnS) (p : List UInt8) : List UInt8 := packL (j.epoch : Int) ((j.many + 1 : Nat) : Int) p
theorem recL_len (j : JrnS) (p : List UInt8) : (recL j p).length = 64 * wantN p := by
  have h := packL_length (j.epoch : Int) ((j.many + 1 : Nat) : Int) p
  unfold recL wantN
  unfold endsN at h
  omega
/-- What Append leaves of the journal and its disk; its error. (Where the disk fails nothing is said here.) -/
def appendC (j : JrnS) (p : List UInt8) : Int := if j.closed then 16 else if j.half - j.next < wantN p then 12 else 0
def appendJ (j : JrnS) (p : List UInt8) : JrnS := if appendC j p = 0 then { j with many := j.many + 1, next := j.next + wantN p } else j
def appendD (j : JrnS) (p : List UInt8) (d : DskS) : DskS × Int := if appendC j p = 0 then layJ j j.second j.next (wantN p) (recL j p) d else (d, 0)
set_option maxRecDepth 100000 in
set_option maxHeartbeats 4000000 in
theorem Append_ok {w0 w : World} {bj bd bp gh : Nat} {j : JrnS} {d : DskS} (p : List UInt8) (h : JD w0 w bj bd bp gh j d) (ho : j.Ok) (hp : p.length ≤ 60000) (hw : d.wait.length ≤ 900000) (h0 : w0.heap.size ≤ w.heap.size) (hz : (appendD j p d).2 = 0) :
    Calls Tryz.prog 19 #[.pointer (some ⟨bj, 0, none⟩), .string ⟨p.toArray⟩] w fun e w' => (∃ v, e = .returned v ∧ ErrIs w' v (appendC j p) 0) ∧ JD w0 w' bj bd bp gh (appendJ j p) (appendD j p d).1 ∧ K w0 [bj] w w' := by
  have HJ := Lib.hid h
  have HO := Lib.hid ho
  have HF := Lib.hid jfault_any
  have c7 := h.j.c7
  have c4 := h.j.c4
  have c5 := h.j.c5
  have o1 := ho.many
  have o2 := ho.epoch
  have o3 := ho.place
  have o4 := ho.next
  have hwn : wantN p ≤ 1000 := by unfold wantN; omega
  obtain ⟨J, hJ⟩ : ∃ J, appendJ j p = J := ⟨_, rfl⟩
  obtain ⟨D, hD⟩ : ∃ J, appendD j p d = J := ⟨_, rfl⟩
  obtain ⟨C, hC⟩ : ∃ J, appendC j p = J := ⟨_, rfl⟩
  rw [hD] at hz
  have HZ := Lib.hid hz
  have HJJ := Lib.hid hJ
  have HDD := Lib.hid hD
  have HCC := Lib.hid hC
  unfold appendJ at HJJ
  unfold appendD at HDD
  rw [hC] at HJJ HDD
  rw [hJ, hD, hC]
  unfold appendC at HCC
  clear h ho hz hJ hD hC
  go_enter Tryz.func19, Tryz.ntmps19
  cases hcl : j.closed with
  | true =>
    rw [hcl] at c7 HCC
    rw [if_pos rfl] at HCC
    rw [if_neg (by rw [← HCC.out]; decide)] at HJJ HDD
    clear hcl
    go_wp2_with fail
    refine (HF.out 16 _ (by decide)).mono ?_
    rintro e w1 ⟨⟨v, rfl, hv⟩, hq⟩
    go_wp2_with fail
    go_ret
    exact ⟨⟨v, rfl, by rw [← HCC.out]; exact hv⟩, by rw [← HJJ.out, ← HDD.out]; exact HJ.out.q hq, K.q hq⟩
  | false =>
    rw [hcl] at c7 HCC
    rw [if_neg (by decide)] at HCC
    go_upto_region 3 with (fail)
    have k4 : ∀ m : QW w, m.val.cell? ⟨bj, 4, none⟩ = some (.int .i64 (j.epoch : Int)) := fun m => m.cell c4
    have k5 : ∀ m : QW w, m.val.cell? ⟨bj, 5, none⟩ = some (.int .i64 (j.many : Int)) := fun m => m.cell c5
    have m1 : (j.many : Int) ≤ 100000 := by omega
    have HPK : Hid (∀ w' : World, Calls Tryz.prog 33 #[.int .i64 (j.epoch : Int), .int .i64 ((j.many : Int) + 1), .string ⟨p.toArray⟩] w' fun x w'' => x = .returned (.tuple #[.string ⟨(recL j p).toArray⟩, .nilIface]) ∧ Q w' w'') :=
      Lib.hid (fun w' => Pack_ok (j.epoch : Int) ((j.many : Int) + 1) p w' hp (decide_eq_true ⟨by omega, by omega, by omega, by omega⟩))
    have HLN := Lib.hid (recL_len j p)
    obtain ⟨s, hs⟩ : ∃ s, recL j p = s := ⟨_, rfl⟩
    rw [hs] at HPK HLN HDD
    clear c4 c5 c7 hs hcl
    refine wp_region_q (by kernel_rfl) (by kernel_rfl) ?_
    (repeat (go_big_quiet_step ((go_at_call 33; exact calls_q (HPK.out _)))))
    refine wpQuiet_nil ?_
    rintro wa ⟨ma, hma⟩
    have hqa : Q w wa := by rw [hma]; exact ma.le
    have HJa := Lib.hid (HJ.out.q hqa)
    have HQa := Lib.hid hqa
    have h0a := Nat.le_trans h0 hqa.size
    have hdv : (s.length : Int) / 64 = (wantN p : Int) := by have := HLN.out; omega
    clear hma ma hqa k4 k5 HPK
    go_wp2_with fail
    refine (Left_any HJa.out.j HO.out).mono ?_
    rintro e w2 ⟨rfl, hq2⟩
    have HJ2 := Lib.hid (HJa.out.q hq2)
    have HQ2 := Lib.hid (HQa.out.trans hq2)
    have h02 := Nat.le_trans h0a hq2.size
    clear hq2 hdv
    by_cases hf : j.half - j.next < wantN p
    · have g1 : decide (j.half - j.next < wantN p) = true := decide_eq_true hf
      rw [if_pos hf] at HCC
      rw [if_neg (by rw [← HCC.out]; decide)] at HJJ HDD
      clear hf
      go_wp2_with fail
      refine (HF.out 12 _ (by decide)).mono ?_
      rintro e w3 ⟨⟨v, rfl, hv⟩, hq⟩
      go_wp2_with fail
      go_ret
      exact ⟨⟨v, rfl, by rw [← HCC.out]; exact hv⟩, by rw [← HJJ.out, ← HDD.out]; exact HJ2.out.q hq, K.q (HQ2.out.trans hq)⟩
    · have g1 : decide (j.half - j.next < wantN p) = false := decide_eq_false hf
      rw [if_neg hf] at HCC
      rw [if_pos HCC.out.symm] at HJJ HDD
      have hfit : j.next + wantN p ≤ j.half := by omega
      have hw1 : 1 ≤ wantN p := by unfold wantN; omega
      go_upto_region 9 with (fail)
      have k3 : ∀ m : QW w2, m.val.cell? ⟨bj, 3, none⟩ = some (.bool j.second) := fun m => m.cell HJ2.out.j.c3
      have k6 : ∀ m : QW w2, m.val.cell? ⟨bj, 6, none⟩ = some (.int .i64 (j.next : Int)) := fun m => m.cell HJ2.out.j.c6
      refine wp_region_q_tail 10 (by kernel_rfl) (by kernel_rfl) ?_
      simp only [List.take_succ_cons, List.take_zero, List.drop_succ_cons, List.drop_zero]
      (repeat (go_big_quiet_step (fail)))
      refine wpQuiet_nil ?_
      rintro wb ⟨mb, hmb⟩
      have hqb : Q w2 wb := by rw [hmb]; exact mb.le
      have HJb := Lib.hid (HJ2.out.q hqb)
      have HQb := Lib.hid (HQ2.out.trans hqb)
      have h0b := Nat.le_trans h02 hqb.size
      clear hmb mb hqb k3 k6 g1
      go_wp2_with fail
      refine (lay_any j.second j.next (wantN p) s HJb.out HLN.out (by omega) (by omega) (by omega) h0b).mono ?_
      rintro e w4 ⟨⟨v, rfl, hv⟩, hd, hk⟩
      rw [HDD.out] at hv hd
      rcases hv with ⟨hc, rfl⟩ | ⟨hc, b, rfl, hf⟩
      case inr => exact absurd HZ.out hc
      have HD4 := Lib.hid hd
      have HK4 := Lib.hid (((K.q (w0 := w0) (S := []) HQb.out).trans hk).mono (S' := [bj]) (by simp))
      clear hd hk hc HJb HQb HJ2 HQ2 HJa HQa HJ
      have c5 := HD4.out.j.c5
      have f5 := HD4.out.j.fz 5
      have m1 : (j.many : Int) ≤ 100000 := by omega
      obtain ⟨hs1, hs2⟩ := HD4.out.set 5 (.int .i64 ((j.many + 1 : Nat) : Int)) (HD4.out.j.set5 (j.many + 1))
      go_upto_region 13 with (fail)
      rw [show ((j.many + 1 : Nat) : Int) = (j.many : Int) + 1 by omega] at hs1 hs2
      obtain ⟨W5, hW5⟩ : ∃ W, w4.setCell ⟨bj, 5, none⟩ (.int .i64 ((j.many : Int) + 1)) = W := ⟨_, rfl⟩
      rw [hW5] at hs1 hs2 ⊢
      have HD5 := Lib.hid hs1
      have HK5 := Lib.hid (HK4.out.trans hs2)
      have c6 := HD5.out.j.c6
      have f6 := HD5.out.j.fz 6
      simp only at c6
      have m2 : (j.next : Int) ≤ 8192 := by omega
      have m3 : (wantN p : Int) ≤ 1000 := by omega
      obtain ⟨hs3, hs4⟩ := HD5.out.set 6 (.int .i64 ((j.next + wantN p : Nat) : Int)) (HD5.out.j.set6 (j.next + wantN p))
      rw [show ((j.next + wantN p : Nat) : Int) = (j.next : Int) + (wantN p : Int) by omega] at hs3 hs4
      have HD6 := Lib.hid hs3
      have HK6 := Lib.hid (HK5.out.trans hs4)
      clear hs1 hs2 hs3 hs4 hW5 c5 f5 HD4 HK4
      go_wp2_with fail
      go_ret
      exact ⟨⟨.nilIface, rfl, by rw [← HCC.out]; exact .inl ⟨rfl, rfl⟩⟩, by rw [← HJJ.out]; exact HD6.out, HK6.out⟩
end Go.Proofs.YtcbepjepcabllaaGreatDoor
/- A journal's load, epochOf. -/
set_option linter.unusedVariables false
set_option linter.unusedSimpArgs false
namespace Go.Proofs.YtcbepjepcabllaaGreatDoor
open Go Go.RowKit
theorem Read_good {w0 w : World} {bd bp gh : Nat} {d : DskS} (k : Nat) (h : DAt w0 w bd bp gh d) (hw : d.wait.length ≤ 1000000) (hr : readyC d (k : Int) = 0) :
    Calls Tryz.prog 77 #[.pointer (some ⟨bd, 0, none⟩), .int .i64 (k : Int)] w fun e w' => e = .returned (.tuple #[.string ⟨(readL d k).toArray⟩, .nilIface]) ∧ Q w w' := by
  refine (Read_any (k : Int) h hw).mono ?_
  rintro e w1 ⟨⟨v, rfl, hv⟩, hq⟩
  rw [hr] at hv
  rcases hv with ⟨_, rfl⟩ | ⟨hc, _⟩
  · refine ⟨?_, hq⟩
    unfold readD
    rw [if_pos hr, Int.toNat_natCast]
  · exact absurd rfl hc
/-- Bytes of the call's own, in a row that nothing froze. -/
def OwnR (w0 w : World) (v : Value) (b : List UInt8) : Prop := w.ownsRow w0.heap.size 5 1 v b.length (b.map u8V)
theorem OwnR.nil (w0 w : World) : OwnR w0 w (.slice none 0 0) [] := ⟨rfl, .inl ⟨rfl, rfl⟩⟩
theorem OwnR.q {w0 w w' : World} {v : Value} {b : List UInt8} (h : OwnR w0 w v b) (hq : Q w w') : OwnR w0 w' v b := by
  refine ⟨h.1, ?_⟩
  rcases h.2 with h2 | ⟨g, cap, cur, hv, h1, h2, h3⟩
  · exact .inl h2
  · exact .inr ⟨g, cap, cur, hv, h1, hq.block h2, h3⟩
theorem OwnR.block {w0 w : World} {v : Value} {b : List UInt8} (h : OwnR w0 w v b) {k : Nat} (hk : v.ownBlock = some k) : w0.heap.size ≤ k := by
  rcases h.2 with ⟨rfl, _⟩ | ⟨g, cap, cur, rfl, h1, _⟩
  · cases hk
  · simp [Value.ownBlock] at hk; omega
/-- append(b, s...) out of a text. -/
theorem wpList_append_str {ops : Array Oper} {rest : List Oper} {o : Oper} {a : Act} {R : Exit → Act → World → Prop} (hgd : o.guard = none) (sl x : Operand)
    (ho : o.op = .call { callee := .builtin .append, args := #[sl, x], argTypes := #[59, 9] })
    (w0 W : World) (v : Value) (b s : List UInt8) (hs : a.eval sl = v) (hown : OwnR w0 W v b) (hx : a.eval x = .string ⟨s.toArray⟩) (hb : b.length + s.length ≤ 140737488355328) (hq : Q w0 W)
    (h : ∀ v' w', OwnR w0 w' v' (b ++ s) → Q w0 w' → wpList Tryz.prog ops R rest (a.put o.dst v') w') : wpList Tryz.prog ops R (o :: rest) a W := by
  obtain ⟨i, hi, hz, hsz, hby⟩ := info_parts info_u8
  have hss : (ByteArray.mk s.toArray).size = s.length := rfl
  refine Lib.wpList_append_own_string (w := W) hgd sl x 59 9 ho w0.heap.size 5 i Tryz.underlying59 Tryz.underlying9 hi hz hsz hby v b.length (b.map u8V) hs hown ⟨s.toArray⟩ hx (by rw [hss]; unfold maxLen; omega) (by rw [hss]; omega) hq.size ?_
  intro v' w' h2 hg _
  refine h v' w' ?_ (gb_q_own hg hq (fun k hk => hown.block hk))
  unfold OwnR
  rw [List.map_append, List.length_append]
  exact h2
/-- What a half reads as. -/
def halfL (j : JrnS) (sec : Bool) (d : DskS) (k : Nat) : List UInt8 := (List.range k).flatMap fun i => readL d (atJ j sec i)
theorem halfL_succ (j : JrnS) (sec : Bool) (d : DskS) (k : Nat) : halfL j sec d (k + 1) = halfL j sec d k ++ readL d (atJ j sec k) := by simp [halfL, List.range_succ]
theorem readL_len {d : DskS} (h : d.Ok) {k : Nat} (hk : k < d.n) : (readL d k).length = 64 := by
  unfold readL
  split
  · rename_i p hp
    exact (h.wait p (List.mem_reverse.1 (List.mem_of_find?_eq_some hp))).2
  · rw [length_sub, h.len]; omega
theorem halfL_len {j : JrnS} {sec : Bool} {d : DskS} (h : d.Ok) (hp : j.first + 2 * j.half ≤ d.n) (k : Nat) : k ≤ j.half → (halfL j sec d k).length = 64 * k := by
  induction k with
  | zero => intro _; rfl
  | succ k ih =>
    intro hk
    rw [halfL_succ, List.length_append, ih (by omega), readL_len h (by unfold atJ; split <;> omega)]
    omega
set_option maxRecDepth 100000 in
set_option maxHeartbeats 4000000 in
theorem load_any {w0 w : World} {bj bd bp gh : Nat} {j : JrnS} {d : DskS} (sec : Bool) (h : JD w0 w bj bd bp gh j d) (hp : j.first + 2 * j.half ≤ d.n) (hw : d.wait.length ≤ 900000) (hg : d.gone = false ∧ d.dead = false) (h0 : w0.heap.size ≤ w.heap.size) :
    Calls Tryz.prog 50 #[.pointer (some ⟨bj, 0, none⟩), .bool sec] w fun e w' => e = .returned (.tuple #[.string ⟨(halfL j sec d j.half).toArray⟩, .nilIface]) ∧ Q w w' := by
  have HJ := Lib.hid h
  have hn8 := h.d.ok.most
  have hok := Lib.hid h.d.ok
  have hrd : Hid (∀ k, k < j.half → readyC d (atJ j sec k : Int) = 0) := Lib.hid (fun k hk => by
    unfold readyC
    rw [hg.1, hg.2, if_neg (by simp), if_neg (by simp), if_neg]
    have : atJ j sec k < d.n := by unfold atJ; split <;> omega
    omega)
  have c2 := h.j.c2
  obtain ⟨m, hm⟩ : ∃ m, j.half = m := ⟨_, rfl⟩
  have HM := Lib.hid hm
  rw [hm] at c2 hrd hp ⊢
  have hmi : (m : Int) ≤ 8192 := by omega
  have HPL := Lib.hid hp
  clear h hm hg
  go_enter Tryz.func50, Tryz.ntmps50
  go_wp2_with fail
  clear c2
  go_loopw [6, 14] (fun v i wr => ∃ k : Nat, k ≤ m ∧ i = .int .i64 (k : Int) ∧ Hid (OwnR w wr v (halfL j sec d k)) ∧ Hid (Q w wr)) (fun _ i _ => m - (intOf i).toNat)
  case atStart => exact ⟨0, by omega, rfl, OwnR.nil _ _, Q.refl _⟩
  case round =>
    obtain ⟨k, hk, rfl, HO, HQ⟩ := hrel
    by_cases hlt : k < m
    · have g1 : decide (k < m) = true := by simpa using hlt
      have HJr := Lib.hid (HJ.out.q HQ.out)
      go_upto_region 5 with (fail)
      have k0 : ∀ m : QW wr, m.val.cell? ⟨bj, 0, none⟩ = some (.pointer (some ⟨bd, 0, none⟩)) := fun m => m.cell HJr.out.j.c0
      have HAT := Lib.hid (fun m : QW wr => at_any (HJr.out.j.q m.le) sec k (by have := HM.out; omega))
      have HRD := Lib.hid (fun m : QW wr => Read_good (atJ j sec k) (HJr.out.d.q m.le) (by omega) (hrd.out k hlt))
      refine wp_region_q (by kernel_rfl) (by kernel_rfl) ?_
      (repeat (go_big_quiet_step (first | (go_at_call 56; exact calls_qs (HAT.out _)) | (go_at_call 77; exact calls_q (HRD.out _)))))
      refine wpQuiet_nil ?_
      rintro wa ⟨ma, hma⟩
      have hqa : Q wr wa := by rw [hma]; exact ma.le
      have HOa := Lib.hid (HO.out.q hqa)
      have HQa := Lib.hid (HQ.out.trans hqa)
      have hl1 : (readL d (atJ j sec k)).length = 64 := readL_len hok.out (by have := HPL.out; unfold atJ; have := HM.out; split <;> omega)
      have hl2 : (halfL j sec d k).length = 64 * k := halfL_len hok.out (by rw [HM.out]; exact HPL.out) k (by rw [HM.out]; exact hk)
      have HL1 := Lib.hid hl1
      have HL2 := Lib.hid hl2
      clear hma ma hqa k0 HAT HRD hl1 hl2 HO HQ
      go_wp2_with (at_builtin; refine wpList_append_str rfl (.tmp 32) (.tmp 33) rfl w wa _ (halfL j sec d k) (readL d (atJ j sec k)) (by rfl) HOa.out (by rfl) (by rw [HL1.out, HL2.out]; omega) HQa.out ?_; intro v5 w5 ho5 hq5; have HO5 := Lib.hid ho5; have HQ5 := Lib.hid hq5; clear ho5 hq5)
      go_roundw
      case rel => exact ⟨k + 1, hlt, by go_num, by rw [halfL_succ]; exact HO5.out, HQ5.out⟩
      case measure => simp [intOf]; omega
    · have g1 : decide (k < m) = false := by simpa using hlt
      obtain rfl : k = m := by omega
      have hcv := conv_b (OwnB.of_row HO.out)
      obtain ⟨A, cp, hv, _⟩ := (OwnB.of_row HO.out).form
      subst hv
      clear hlt
      go_wp2_with fail
      go_ret2
      exact ⟨rfl, HQ.out⟩
end Go.Proofs.YtcbepjepcabllaaGreatDoor
/- A half's epoch. -/
set_option linter.unusedVariables false
set_option linter.unusedSimpArgs false
namespace Go.Proofs.YtcbepjepcabllaaGreatDoor
open Go Go.RowKit
instance (s : List UInt8) (e n : Int) : Decidable (UnpOk s e n) := by unfold UnpOk; infer_instance
/-- The number of eight bytes, unless it is too great. -/
def eGo : List UInt8 → Nat → Option Nat
  | [], e => some e
  | c :: r, e => if 18014398509481984 < e then none else eGo r (e * 256 + c.toNat)
def payL (s : List UInt8) : List UInt8 := sub s 24 (24 + nAt s 4)
def isHead (h : List UInt8) (e : Nat) : Bool := decide (UnpOk h (e : Int) 0) && decide (payL h = magicL)
def epN (s : List UInt8) : Nat := match eGo (sub s 12 20) 0 with | none => 0 | some e => if isHead (sub s 0 64) e then e else 0
theorem Unpack_any (s : List UInt8) (e n : Int) (w : World) (hl : s.length ≤ 281474976710656) :
    Calls Tryz.prog 52 #[.string ⟨s.toArray⟩, .int .i64 e, .int .i64 n] w fun x w' => ((UnpOk s e n ∧ x = .returned (.tuple #[.string ⟨(payL s).toArray⟩, .int .i64 (endsN (nAt s 4)), .nilIface])) ∨ (¬ UnpOk s e n ∧ ∃ b, x = .returned (.tuple #[.string ⟨#[]⟩, .int .i64 0, .iface 84 (.pointer (some ⟨b, 0, none⟩))]))) ∧ Q w w' := by
  by_cases h : UnpOk s e n
  · exact (Unpack_ok s e n w hl h).mono fun x w' ⟨hx, hq⟩ => ⟨.inl ⟨h, hx⟩, hq⟩
  · refine (Unpack_bad s e n w hl h).mono fun x w' ⟨ev, hx, he, hq⟩ => ⟨.inr ⟨h, ?_⟩, hq⟩
    rcases he with ⟨hc, _⟩ | ⟨_, b, rfl, _⟩
    · cases hc
    · exact ⟨b, hx⟩
theorem eGo_bound (l : List UInt8) : ∀ (e : Nat), e ≤ 4611686018427387903 + 256 → ∀ r, eGo l e = some r → r ≤ 4611686018427387904 + 255 := by
  induction l with
  | nil => intro e he r h; simp [eGo] at h; omega
  | cons c t ih =>
    intro e he r h
    have hc := c.toNat_lt
    unfold eGo at h
    split at h
    · cases h
    · exact ih _ (by omega) r h
set_option maxRecDepth 100000 in
set_option maxHeartbeats 4000000 in
theorem epochOf_any (s : List UInt8) (w : World) (h64 : 64 ≤ s.length) (hl : s.length ≤ 10000000) :
    Calls Tryz.prog 51 #[.string ⟨s.toArray⟩] w fun e w' => e = .returned (.int .i64 (epN s : Int)) ∧ Q w w' := by
  have hl8 : (sub s 12 20).length = 8 := by rw [length_sub]; omega
  obtain ⟨v, W1, hcv, hown, hq, cap, hv⟩ := bytes_of (sub s 12 20) w (by omega)
  subst hv
  have HE : Hid (epN s = epN s) := rfl
  obtain ⟨N, hN⟩ : ∃ N, epN s = N := ⟨_, rfl⟩
  have HN := Lib.hid hN
  unfold epN at HN
  rw [hN]
  obtain ⟨b, hb⟩ : ∃ b, sub s 12 20 = b := ⟨_, rfl⟩
  rw [hb] at hl8 hcv hown HN
  obtain ⟨g, cp, hv2, hg0, hcp, hcm, hcell⟩ := hown.pos (by omega)
  injection hv2 with e1 e2 e3
  injection e1 with e1
  injection e1 with e1 _ _
  subst e3
  rw [e1] at hcv
  rw [hl8] at hcv
  have hcell8 : Hid (∀ i, i < 8 → W1.cell? ⟨g, i, none⟩ = some (.int .u8 ((gB b i).toNat : Int))) := Lib.hid (fun i hi => (hcell i (by omega)).1)
  have HB8 := Lib.hid hl8
  have HQ := Lib.hid hq
  clear hcell hown hN hl8 hg0 hcp hcm e1 e2 HE hq
  go_enter Tryz.func51, Tryz.ntmps51
  go_wp2_with fail
  go_loopw [3, 13] (fun ev i wr => ∃ (k e : Nat), k ≤ 8 ∧ i = .int .i64 (k : Int) ∧ ev = .int .i64 (e : Int) ∧ e ≤ 4611686018427387904 + 255 ∧ Hid (eGo b 0 = eGo (b.drop k) e) ∧ Hid (Q W1 wr)) (fun _ i _ => 8 - (intOf i).toNat)
  case atStart => exact ⟨0, 0, by omega, rfl, rfl, by omega, rfl, Q.refl _⟩
  case round =>
    obtain ⟨k, e, hk, rfl, rfl, he, HG, HQr⟩ := hrel
    by_cases hlt : k < 8
    · have g1 : decide ((k : Int) < 8) = true := by simp; omega
      have hc := HQr.out.cell (hcell8.out k hlt)
      obtain ⟨c, hcc⟩ : ∃ c, gB b k = c := ⟨_, rfl⟩
      have hdr : b.drop k = c :: b.drop (k + 1) := by
        have := HB8.out
        rw [List.drop_eq_getElem_cons (by omega)]
        congr 1
        rw [← hcc]; simp [gB, List.getD, show k < b.length by omega]
      rw [hdr, eGo] at HG
      rw [hcc] at hc
      have hc256 := c.toNat_lt
      clear hdr hcc
      by_cases hbig : 18014398509481984 < e
      · have g2 : decide ((18014398509481984 : Int) < (e : Int)) = true := by simp; omega
        rw [if_pos hbig] at HG
        rw [HG.out] at HN
        clear hbig
        go_wp2_with fail
        go_ret
        exact ⟨by rw [← HN.out]; rfl, HQ.out.trans HQr.out⟩
      · have g2 : decide ((18014398509481984 : Int) < (e : Int)) = false := by simp; omega
        rw [if_neg hbig] at HG
        have hor : bits .or .i64 ((e : Int) * 256) (c.toNat : Int) = (e : Int) * 256 + (c.toNat : Int) := or_i64 8 ((e : Int) * 256) (c.toNat : Int) (by omega) (by omega) (by omega) (by omega) (by omega) (by omega)
        go_wp2_with fail
        go_roundw
        case rel => exact ⟨k + 1, e * 256 + c.toNat, by omega, by go_num, by rw [show ((e * 256 + c.toNat : Nat) : Int) = (e : Int) * 256 + (c.toNat : Int) by omega], by omega, HG.out, HQr.out⟩
        case measure => simp [intOf]; omega
    · have g1 : decide ((k : Int) < 8) = false := by simp; omega
      obtain rfl : k = 8 := by omega
      rw [List.drop_of_length_le (by have := HB8.out; omega)] at HG
      have hG : eGo b 0 = some e := HG.out
      rw [hG] at HN
      have HN2 : Hid ((if isHead (sub s 0 64) e = true then e else 0) = N) := Lib.hid HN.out
      have hl64 : (sub s 0 64).length = 64 := by rw [length_sub]; omega
      have HU := Lib.hid (fun w => Unpack_any (sub s 0 64) (e : Int) 0 w (by rw [hl64]; omega))
      obtain ⟨h, hh⟩ : ∃ h, sub s 0 64 = h := ⟨_, rfl⟩
      rw [hh] at HU HN2
      clear HG hG HN hl64 hlt
      go_wp2_with fail
      refine (HU.out wr).mono ?_
      rintro x w5 ⟨⟨hu, rfl⟩ | ⟨hu, b5, rfl⟩, hq5⟩
      · by_cases hp : payL h = magicL
        · have g3 : (payL h == [106, 111, 117, 114, 110, 97, 108]) = true := by simpa [magicL] using hp
          have hi : isHead h e = true := by unfold isHead; rw [decide_eq_true hu, decide_eq_true hp]; rfl
          rw [hi] at HN2
          have HN3 := HN2.out
          rw [if_pos rfl] at HN3
          have HN4 := Lib.hid HN3
          clear HN3
          clear hp hu hi
          go_wp2_with fail
          go_ret
          exact ⟨by rw [← HN4.out]; rfl, (HQ.out.trans HQr.out).trans hq5⟩
        · have g3 : (payL h == [106, 111, 117, 114, 110, 97, 108]) = false := by simpa [magicL] using hp
          have hi : isHead h e = false := by unfold isHead; rw [decide_eq_false hp, Bool.and_false]
          rw [hi] at HN2
          have HN3 := HN2.out
          rw [if_neg (by decide)] at HN3
          have HN4 := Lib.hid HN3
          clear HN3
          clear hp hu hi
          go_wp2_with fail
          go_ret
          exact ⟨by rw [← HN4.out]; rfl, (HQ.out.trans HQr.out).trans hq5⟩
      · have hi : isHead h e = false := by unfold isHead; rw [decide_eq_false hu, Bool.false_and]
        rw [hi] at HN2
        have HN3 := HN2.out
        rw [if_neg (by decide)] at HN3
        have HN4 := Lib.hid HN3
        clear HN3
        clear hu hi
        go_wp2_with fail
        go_ret
        exact ⟨by rw [← HN4.out]; rfl, (HQ.out.trans HQr.out).trans hq5⟩
end Go.Proofs.YtcbepjepcabllaaGreatDoor
/- A journal's Open. -/
set_option linter.unusedVariables false
set_option linter.unusedSimpArgs false
namespace Go.Proofs.YtcbepjepcabllaaGreatDoor
open Go Go.RowKit
theorem oneStr' : OneCell Tryz.prog 31 9 (.string ⟨#[]⟩) 16 := ⟨Tryz.underlying31, by kernel_rfl, rfl⟩
/-- append(l, s), and what it leaves alone. -/
theorem wpList_append_s {ops : Array Oper} {rest : List Oper} {o : Oper} {a : Act} {R : Exit → Act → World → Prop} (hgd : o.guard = none) (s x : Operand)
    (ho : o.op = .call { callee := .builtin .append, args := #[s, x], argTypes := #[31, 31] })
    (w0 W : World) (v : Value) (us : List Value) (u : List UInt8) (hs : a.eval s = v) (hown : OwnS 9 w0 W v us) (hx : a.eval x = .slice (some ⟨W.heap.size, 0, none⟩) 1 1) (hw0 : w0.heap.size ≤ W.heap.size) (hb : us.length ≤ 1000000)
    (h : ∀ v' w', OwnS 9 w0 w' v' (us ++ [strV u]) → W.grownBy w' v.ownBlock → wpList Tryz.prog ops R rest (a.put o.dst v') w') : wpList Tryz.prog ops R (o :: rest) a (W.alloc (.cells #[strV u] 9)) := by
  obtain ⟨i, hi, hz, hsz, hby⟩ := info_parts oneStr'.info
  refine wpList_append_own (w := W.alloc (.cells #[strV u] 9)) hgd s x 31 ho w0.heap.size 9 i _ 1 16 oneStr'.under hi hz hsz hby oneStr'.zsize (by decide) v us.length us hs (World.ownsRow.alloc hown _) ⟨W.heap.size, 0, none⟩ 1 1 [strV u] hx rfl ?_ (by simp [strV, Value.oneCell']) (by unfold maxLen; omega) (by omega) (by simp; omega) ?_
  · intro j y hj
    have e : (Addr.add ⟨W.heap.size, 0, none⟩ j) = ⟨W.heap.size, j, none⟩ := by unfold Addr.add; split <;> simp_all
    rw [e, cell_of_row _ _ _ _ _ _ (MapKept.heap_alloc W _).1]
    simpa using hj
  · intro v' w' h2 hg _
    refine h v' w' ?_ ((World.grownBy_alloc W _ _).trans hg)
    unfold OwnS; rw [List.length_append]; exact h2
theorem OwnS.type {w0 w : World} {v : Value} {us : List Value} (h : OwnS 9 w0 w v us) {k : Nat} (hk : v.ownBlock = some k) : w0.heap.size ≤ k ∧ elemT w k = some 9 := by
  rcases h.2 with ⟨rfl, _⟩ | ⟨g, cap, cur, rfl, h1, h2, _⟩
  · cases hk
  · have e : g = k := by simpa [Value.ownBlock] using hk
    subst e
    exact ⟨h1, elemT_of h2⟩
theorem JD.gbo {w0 w1 w w' : World} {bj bd bp gh : Nat} {j : JrnS} {d : DskS} {v : Value} {us : List Value} (h : JD w0 w bj bd bp gh j d) (ho : OwnS 9 w1 w v us) (hg : w.grownBy w' v.ownBlock) : JD w0 w' bj bd bp gh j d := by
  cases hv : v.ownBlock with
  | none =>
    rw [hv] at hg
    exact h.q ⟨hg.os, hg.tape, hg.output, hg.size, fun k hk => hg.block k hk (by simp)⟩
  | some g =>
    obtain ⟨_, ht⟩ := ho.type hv
    rw [hv] at hg
    refine ⟨?_, h.d.gb hg (by rw [ht]; decide), h.n⟩
    have hj := h.j
    unfold JAt at hj ⊢
    rw [hg.block bj (lt_of_heap hj) (fun e => by injection e with e; subst e; rw [elemT_of hj] at ht; revert ht; decide)]
    exact hj
theorem OwnS.set {w1 w : World} {v x : Value} {us : List Value} {bj bd i : Nat} {j : JrnS} (h : OwnS 9 w1 w v us) (hj : JAt w bj bd j) : OwnS 9 w1 (w.setCell ⟨bj, i, none⟩ x) v us := by
  refine World.ownsRow.kept h (gb_setCell w bj i x) (.inr fun e => ?_)
  obtain ⟨_, ht⟩ := OwnS.type h e
  rw [elemT_of hj] at ht; revert ht; decide
theorem epN_le (s : List UInt8) : epN s ≤ 4611686018427387904 := by
  unfold epN
  split
  · omega
  · split
    · rename_i e _ h
      unfold isHead at h
      rw [Bool.and_eq_true] at h
      have := right_spec (of_decide_eq_true h.1).1
      omega
    · omega
/-- The records of a half, from a sector on: they, and the first sector behind them. -/
def recGo (h : List UInt8) (e half : Nat) : Nat → Nat → Nat → List (List UInt8) × Nat
  | 0, next, _ => ([], next)
  | f + 1, next, many => if next < half ∧ UnpOk (sub h (next * 64) h.length) (e : Int) ((many + 1 : Nat) : Int) then
      (payL (sub h (next * 64) h.length) :: (recGo h e half f (next + (endsN (nAt (sub h (next * 64) h.length) 4)).toNat / 64) (many + 1)).1, (recGo h e half f (next + (endsN (nAt (sub h (next * 64) h.length) 4)).toNat / 64) (many + 1)).2)
    else ([], next)
theorem recGo_succ (h : List UInt8) (e half f next many : Nat) : recGo h e half (f + 1) next many = if next < half ∧ UnpOk (sub h (next * 64) h.length) (e : Int) ((many + 1 : Nat) : Int) then
      (payL (sub h (next * 64) h.length) :: (recGo h e half f (next + (endsN (nAt (sub h (next * 64) h.length) 4)).toNat / 64) (many + 1)).1, (recGo h e half f (next + (endsN (nAt (sub h (next * 64) h.length) 4)).toNat / 64) (many + 1)).2)
    else ([], next) := rfl
theorem recGo_end {h : List UInt8} {e half f next many : Nat} (hn : ¬ next < half) : recGo h e half f next many = ([], next) := by
  cases f with
  | zero => rfl
  | succ f => unfold recGo; rw [if_neg (fun h => hn h.1)]
theorem unp_len {P : List UInt8} {e n : Int} (hu : UnpOk P e n) : ∃ k : Nat, endsN (nAt P 4) = 64 * (k : Int) ∧ 1 ≤ k ∧ 64 * k ≤ P.length ∧ (endsN (nAt P 4)).toNat / 64 = k := by
  have h := hu.2.2.2.2.1
  have hx : endsN (nAt P 4) = 64 * (((nAt P 4 : Int) + 87) / 64) := by unfold endsN; omega
  exact ⟨((nAt P 4 + 87) / 64 : Nat), by omega, by omega, by omega, by omega⟩
theorem unp_le {n l m nx half : Nat} (h1 : 64 * n ≤ l) (h2 : l = m - nx * 64) (h3 : m = 64 * half) : nx + n ≤ half ∨ n = 0 := by omega
/-- What Open finds: is it the second half, the epoch, the records, what is behind them. -/
structure FoundS where
  second : Bool
  epoch : Nat
  recs : List (List UInt8)
  next : Nat
def foundMk (s : Bool) (e : Nat) (h : List UInt8) (half : Nat) : FoundS := ⟨s, e, (recGo h e half half 1 0).1, (recGo h e half half 1 0).2⟩
def foundOf (a b : List UInt8) (half : Nat) : FoundS := foundMk (decide (epN a < epN b)) (if epN a < epN b then epN b else epN a) (if epN a < epN b then b else a) half
def openF (f half : Nat) (d : DskS) : FoundS := foundOf (halfL (jrn0 f half) false d half) (halfL (jrn0 f half) true d half) half
def foundJ (f half : Nat) (x : FoundS) : JrnS := ⟨f, half, x.second, x.epoch, x.recs.length, x.next, false⟩
set_option maxRecDepth 100000 in
set_option maxHeartbeats 8000000 in
theorem Open_ok {w0 w : World} {bd bp gh : Nat} {d : DskS} (f half : Nat) (h : DAt w0 w bd bp gh d) (hh : 2 ≤ half) (hn : f + 2 * half ≤ d.n) (h0 : w0.heap.size ≤ w.heap.size) (hw : d.wait.length ≤ 900000) (hg : d.gone = false ∧ d.dead = false) (he : (openF f half d).epoch ≠ 0) :
    Calls Tryz.prog 21 #[.pointer (some ⟨bd, 0, none⟩), .int .i64 (f : Int), .int .i64 ((2 * half : Nat) : Int)] w fun e w' => (∃ bj v, e = .returned (.tuple #[.pointer (some ⟨bj, 0, none⟩), v, .nilIface]) ∧ OwnS 9 w w' v ((openF f half d).recs.map strV) ∧ JD w0 w' bj bd bp gh (foundJ f half (openF f half d)) d ∧ w.heap.size ≤ bj) ∧ Q w w' := by
  have HB := Lib.hid (begin_ok f half h hh hn h0)
  have hokd := Lib.hid h.ok
  have hm8 := h.ok.most
  obtain ⟨F, hF⟩ : ∃ F, openF f half d = F := ⟨_, rfl⟩
  rw [hF] at he ⊢
  have HF := Lib.hid hF
  unfold openF at HF
  have HE0 := Lib.hid he
  have HLD := Lib.hid (fun (sec : Bool) (bj : Nat) (w' : World) (hj : JD w0 w' bj bd bp gh (jrn0 f half) d) (h0' : w0.heap.size ≤ w'.heap.size) => load_any sec hj hn hw hg h0')
  have hla : (halfL (jrn0 f half) false d half).length = 64 * half := halfL_len hokd.out hn half (Nat.le_refl _)
  have hlb : (halfL (jrn0 f half) true d half).length = 64 * half := halfL_len hokd.out hn half (Nat.le_refl _)
  obtain ⟨a, ha⟩ : ∃ a, halfL (jrn0 f half) false d half = a := ⟨_, rfl⟩
  obtain ⟨b, hb⟩ : ∃ a, halfL (jrn0 f half) true d half = a := ⟨_, rfl⟩
  have HLA : Hid (∀ bj w', JD w0 w' bj bd bp gh (jrn0 f half) d → w0.heap.size ≤ w'.heap.size → Calls Tryz.prog 50 #[.pointer (some ⟨bj, 0, none⟩), .bool false] w' fun e w'' => e = .returned (.tuple #[.string ⟨a.toArray⟩, .nilIface]) ∧ Q w' w'') := Lib.hid (fun bj w' hj h0' => by rw [← ha]; exact HLD.out false bj w' hj h0')
  have HLB : Hid (∀ bj w', JD w0 w' bj bd bp gh (jrn0 f half) d → w0.heap.size ≤ w'.heap.size → Calls Tryz.prog 50 #[.pointer (some ⟨bj, 0, none⟩), .bool true] w' fun e w'' => e = .returned (.tuple #[.string ⟨b.toArray⟩, .nilIface]) ∧ Q w' w'') := Lib.hid (fun bj w' hj h0' => by rw [← hb]; exact HLD.out true bj w' hj h0')
  rw [ha] at hla
  rw [hb] at hlb
  rw [ha, hb] at HF
  unfold foundOf at HF
  have hbe := epN_le b
  have hae := epN_le a
  have HEA := Lib.hid (fun w => epochOf_any a w (by omega) (by omega))
  have HEB := Lib.hid (fun w => epochOf_any b w (by omega) (by omega))
  obtain ⟨ea, hea⟩ : ∃ e, epN a = e := ⟨_, rfl⟩
  obtain ⟨eb, heb⟩ : ∃ e, epN b = e := ⟨_, rfl⟩
  rw [hea] at hae HEA
  rw [heb] at hbe HEB
  rw [hea, heb] at HF
  have HL1 := Lib.hid hla
  have HL2 := Lib.hid hlb
  have hh' : half ≤ 4096 := by omega
  obtain ⟨s, hs⟩ : ∃ s, s = 2 * half := ⟨_, rfl⟩
  rw [← hs] at HB ⊢
  clear h hF he HLD ha hb hea heb hla hlb hs hg hn
  go_enter Tryz.func21, Tryz.ntmps21
  go_wp2_with fail
  refine HB.out.mono ?_
  rintro e w1 ⟨⟨bj, rfl, hj1, hbj⟩, hq1⟩
  have HJ1 := Lib.hid hj1
  have HQ1 := Lib.hid hq1
  have h01 := Nat.le_trans h0 hq1.size
  clear hj1 hq1 HB
  go_wp2_with fail
  refine (HLA.out bj w1 HJ1.out h01).mono ?_
  rintro e w2 ⟨rfl, hq2⟩
  have HJ2 := Lib.hid (HJ1.out.q hq2)
  have HQ2 := Lib.hid (HQ1.out.trans hq2)
  have h02 := Nat.le_trans h01 hq2.size
  clear hq2 HJ1 HQ1
  go_wp2_with fail
  refine (HLB.out bj w2 HJ2.out h02).mono ?_
  rintro e w3 ⟨rfl, hq3⟩
  have HJ3 := Lib.hid (HJ2.out.q hq3)
  have HQ3 := Lib.hid (HQ2.out.trans hq3)
  have h03 := Nat.le_trans h02 hq3.size
  clear hq3 HJ2 HQ2 HLA HLB
  go_wp2_with fail
  refine (HEA.out w3).mono ?_
  rintro e w4 ⟨rfl, hq4⟩
  have HJ4 := Lib.hid (HJ3.out.q hq4)
  have HQ4 := Lib.hid (HQ3.out.trans hq4)
  have h04 := Nat.le_trans h03 hq4.size
  have c4 := HJ4.out.j.c4
  have f4 := HJ4.out.j.fz 4
  obtain ⟨hs1, hs2⟩ := HJ4.out.set 4 (.int .i64 (ea : Int)) (HJ4.out.j.set4 ea)
  have hqs := HQ4.out.setNew (p := ⟨bj, 4, none⟩) hbj (.int .i64 (ea : Int))
  clear hq4 HJ3 HQ3
  go_upto_region 11 with (fail)
  obtain ⟨W5, hW5⟩ : ∃ W, w4.setCell ⟨bj, 4, none⟩ (.int .i64 (ea : Int)) = W := ⟨_, rfl⟩
  rw [hW5] at hs1 hs2 hqs ⊢
  have HJ5 := Lib.hid hs1
  have HQ5 := Lib.hid hqs
  have h05 := Nat.le_trans h04 hs2.size
  clear hs1 hs2 hqs hW5 c4 f4 HJ4 HQ4
  go_wp2_with fail
  refine (HEB.out W5).mono ?_
  rintro e w6 ⟨rfl, hq6⟩
  have HJ6 := Lib.hid (HJ5.out.q hq6)
  have HQ6 := Lib.hid (HQ5.out.trans hq6)
  have h06 := Nat.le_trans h05 hq6.size
  have c4 := HJ6.out.j.c4
  have f4 := HJ6.out.j.fz 4
  have c3 := HJ6.out.j.c3
  have f3 := HJ6.out.j.fz 3
  simp only at c4 c3
  clear hq6 HJ5 HQ5 HEA HEB
  go_upto_if 58 with (fail)
  go_cut [11] (fun sv wx => sv = .string ⟨(if ea < eb then b else a).toArray⟩ ∧ Hid (JD w0 wx bj bd bp gh { jrn0 f half with second := decide (ea < eb), epoch := if ea < eb then eb else ea } d) ∧ Hid (Q w wx) ∧ w0.heap.size ≤ wx.heap.size)
  case first =>
    by_cases hlt : ea < eb
    · have g1 : decide (ea < eb) = true := decide_eq_true hlt
      obtain ⟨hs1, hs2⟩ := HJ6.out.set 4 (.int .i64 (eb : Int)) (HJ6.out.j.set4 eb)
      obtain ⟨hs3, hs4⟩ := hs1.set 3 (.bool true) (hs1.j.set3 true)
      have hqs := (HQ6.out.setNew (p := ⟨bj, 4, none⟩) hbj (.int .i64 (eb : Int))).setNew (p := ⟨bj, 3, none⟩) hbj (.bool true)
      have HJ7 := Lib.hid hs3
      have HQ7 := Lib.hid hqs
      have h07 := Nat.le_trans h06 (hs2.trans hs4).size
      have HLT := Lib.hid hlt
      clear hs1 hs2 hs3 hs4 hqs hlt
      go_wp2_with fail
      go_meet
      rw [if_pos HLT.out, if_pos HLT.out, g1]
      exact ⟨rfl, HJ7.out, HQ7.out, h07⟩
    · have g1 : decide (ea < eb) = false := decide_eq_false hlt
      have HLT := Lib.hid hlt
      clear hlt
      go_wp2_with fail
      go_meet
      rw [if_neg HLT.out, if_neg HLT.out, g1]
      exact ⟨rfl, HJ6.out, HQ6.out, h06⟩
  case rest =>
    obtain ⟨rfl, HJ7, HQ7, h07⟩ := hcut
    have hEb : (if ea < eb then eb else ea) ≤ 4611686018427387904 := by split <;> omega
    have hHl : (if ea < eb then b else a).length = 64 * half := by split; exact HL2.out; exact HL1.out
    obtain ⟨H, hH⟩ : ∃ h, (if ea < eb then b else a) = h := ⟨_, rfl⟩
    obtain ⟨E, hE⟩ : ∃ h, (if ea < eb then eb else ea) = h := ⟨_, rfl⟩
    obtain ⟨B, hB⟩ : ∃ h, decide (ea < eb) = h := ⟨_, rfl⟩
    rw [hH, hE, hB] at HF
    rw [hE, hB] at HJ7
    rw [hE] at hEb
    rw [hH] at hHl ⊢
    have HE1 : Hid (E ≠ 0) := Lib.hid (by have := HE0.out; rw [← HF.out] at this; exact this)
    have c4 := HJ7.out.j.c4
    simp only at c4
    have g0 : ((E : Int) == 0) = false := by have := HE1.out; simp; omega
    have HHL := Lib.hid hHl
    clear hH hE hB c3 f3 f4 HJ6 HQ6 h06 HL1 HL2 hHl
    go_upto_region 17 with (fail)
    have HR0 : Hid (F = ⟨B, E, (recGo H E half half 1 0).1, (recGo H E half half 1 0).2⟩) := Lib.hid HF.out.symm
    clear c4 g0
    go_loopw [14] (fun v wr => ∃ (acc : List (List UInt8)) (nx mf : Nat), 1 ≤ nx ∧ nx ≤ half ∧ half ≤ nx + mf ∧ acc.length < nx ∧ Hid (recGo H E half half 1 0 = (acc ++ (recGo H E half mf nx acc.length).1, (recGo H E half mf nx acc.length).2)) ∧ Hid (OwnS 9 w wr v (acc.map strV)) ∧ Hid (JD w0 wr bj bd bp gh ⟨f, half, B, E, acc.length, nx, false⟩ d) ∧ Hid (Q w wr)) (fun _ wr => half - (intOf ((wr.cell? ⟨bj, 6, none⟩).getD undef)).toNat)
    case atStart => exact ⟨[], 1, half, by omega, by omega, by omega, by simp, rfl, OwnS.nil _ _ _, HJ7.out, HQ7.out⟩
    case round =>
      obtain ⟨acc, nx, mf, hn1, hnh, hmf, hac, HRG, HOS, HJr, HQr⟩ := hrel
      have c6 := HJr.out.j.c6
      have CR6 := Lib.hid c6
      have k6 : ∀ m : QW wr, m.val.cell? ⟨bj, 6, none⟩ = some (.int .i64 (nx : Int)) := fun m => m.cell c6
      have k2 : ∀ m : QW wr, m.val.cell? ⟨bj, 2, none⟩ = some (.int .i64 (half : Int)) := fun m => m.cell HJr.out.j.c2
      by_cases hlt : nx < half
      · have g1 : decide (nx < half) = true := decide_eq_true hlt
        refine wp_seq_k fun K hK => ?_
        refine wp_seq_k fun K hK => ?_
        refine wp_region_q (by kernel_rfl) (by kernel_rfl) ?_
        (repeat (go_big_quiet_step (fail)))
        refine wpQuiet_nil ?_
        rintro wa ⟨ma, hma⟩
        have hqa : Q wr wa := by rw [hma]; exact ma.le
        have HJa := Lib.hid (HJr.out.q hqa)
        have HQa := Lib.hid (HQr.out.trans hqa)
        have HOa := Lib.hid (HOS.out.q hqa)
        have hsl : nx * 64 ≤ H.length := by have := HHL.out; omega
        have hHb : H.length ≤ 262144 := by have := HHL.out; omega
        have hnb : (nx : Int) ≤ 4096 := by omega
        have hab : (acc.length : Int) ≤ 4096 := by omega
        clear hma ma hqa k6 k2 c6 HJr HQr HOS
        go_upto_region 18 with (fail)
        have k6 : ∀ m : QW wa, m.val.cell? ⟨bj, 6, none⟩ = some (.int .i64 (nx : Int)) := fun m => m.cell HJa.out.j.c6
        have k4 : ∀ m : QW wa, m.val.cell? ⟨bj, 4, none⟩ = some (.int .i64 (E : Int)) := fun m => m.cell HJa.out.j.c4
        have k5 : ∀ m : QW wa, m.val.cell? ⟨bj, 5, none⟩ = some (.int .i64 (acc.length : Int)) := fun m => m.cell HJa.out.j.c5
        refine wp_region_noPanic ?_
        refine wp_fin [] [([0, 1, 2, 3, 4, 5, 6, 7, 8, 9, 10, 11, 12, 13, 14, 15], [16]), ([17, 18, 19, 20, 21, 22, 23], [])] [] (by kernel_rfl) (by kernel_rfl) (fun _ _ _ _ _ h => h) ?_
        simp only [wpFin, wpListK, List.map_cons, List.map_nil, Array.getD_eq_getD_getElem?, List.getElem?_toArray, List.getElem?_cons_succ, List.getElem?_cons_zero, Option.getD_some]
        refine wpQuiet_nil ?_
        (repeat (go_big_quiet_step (fail)))
        refine wpQuiet_nil ?_
        obtain ⟨Wd, hWd⟩ : ∃ W, wa.drew = W := ⟨_, rfl⟩
        have hqd : Q wa Wd := by rw [← hWd]; exact (Q.refl wa).drew
        rw [hWd]
        clear hWd k4 k5 k6
        intro K hK
        go_wp2_with fail
        obtain ⟨P, hP⟩ : ∃ P, sub H (nx * 64) H.length = P := ⟨_, rfl⟩
        have hPl : P.length = H.length - nx * 64 := by rw [← hP, length_sub]; omega
        have HHL2 := HHL.out
        have hPb : P.length ≤ 281474976710656 := by omega
        rw [hP]
        refine (Unpack_any P (E : Int) ((acc.length : Int) + 1) Wd hPb).mono ?_
        clear hPb
        obtain ⟨mf', rfl⟩ : ∃ m, mf = m + 1 := ⟨mf - 1, by omega⟩
        have HRG2 := HRG.out
        rw [recGo_succ, hP, show ((acc.length + 1 : Nat) : Int) = (acc.length : Int) + 1 by omega] at HRG2
        have HP := Lib.hid hP
        have HPL := Lib.hid hPl
        clear hP hPl HHL2
        rintro e3 w3 ⟨⟨hu, rfl⟩ | ⟨hu, b5, rfl⟩, hq3⟩
        · rw [if_pos ⟨hlt, hu⟩] at HRG2
          obtain ⟨n, hn, hn1', hnn, hdv⟩ := unp_len hu
          have hnn : nx + n ≤ half := (unp_le hnn HPL.out HHL.out).resolve_right (Nat.pos_iff_ne_zero.1 hn1')
          rw [hdv] at HRG2
          rw [hn]
          obtain ⟨pl, hpl⟩ : ∃ pl, payL P = pl := ⟨_, rfl⟩
          rw [hpl] at HRG2 ⊢
          have HRG3 := Lib.hid HRG2
          clear hu HRG2 hdv hpl hn HP HPL
          go_wp2_with fail
          refine hK.out _ _ ⟨⟨w3, hqd.trans hq3⟩, rfl⟩ ?_
          clear hK K
          (repeat (go_big_quiet_step (fail)))
          refine wpQuiet_nil ?_
          refine NoPanic.normal ?_
          have hqa := hqd.trans hq3
          have HJ3 := Lib.hid (HJa.out.q hqa)
          have HQ3 := Lib.hid (HQa.out.trans hqa)
          have HO3 := Lib.hid (HOa.out.q hqa)
          clear HJa HQa HOa hqa hqd hq3
          go_upto_region 21 with (at_builtin; refine wpList_append_s rfl (.tmp 105) (.tmp 107) rfl w w3 _ (acc.map strV) pl (by rfl) HO3.out (by rfl) (by exact HQ3.out.size) (by rw [List.length_map]; omega) ?_; intro v5 w5 ho5 hg5)
          have HO5 := Lib.hid ho5
          have HJ5 := Lib.hid (HJ3.out.gbo HO3.out hg5)
          have HQ5 := Lib.hid (gb_q_own hg5 HQ3.out (fun k hk => HO3.out.block hk))
          clear ho5 hg5 HJ3 HQ3 HO3
          have c5 := HJ5.out.j.c5
          have f5 := HJ5.out.j.fz 5
          simp only at c5
          obtain ⟨hs1, hs2⟩ := HJ5.out.set 5 (.int .i64 ((acc.length + 1 : Nat) : Int)) (HJ5.out.j.set5 (acc.length + 1))
          go_upto_region 22 with (fail)
          rw [show ((acc.length + 1 : Nat) : Int) = (acc.length : Int) + 1 by omega] at hs1 hs2
          have HO6 := Lib.hid (HO5.out.set (i := 5) (x := .int .i64 ((acc.length : Int) + 1)) HJ5.out.j)
          have HQ6 := Lib.hid (HQ5.out.setNew (p := ⟨bj, 5, none⟩) hbj (.int .i64 ((acc.length : Int) + 1)))
          obtain ⟨W6, hW6⟩ : ∃ W, w5.setCell ⟨bj, 5, none⟩ (.int .i64 ((acc.length : Int) + 1)) = W := ⟨_, rfl⟩
          rw [hW6] at hs1 hs2 HO6 HQ6 ⊢
          have HJ6 := Lib.hid hs1
          clear hs1 hs2 hW6 c5 f5 HJ5 HQ5 HO5
          have c6 := HJ6.out.j.c6
          have f6 := HJ6.out.j.fz 6
          simp only at c6
          have m2 : (n : Int) ≤ 8192 := by omega
          obtain ⟨hs3, hs4⟩ := HJ6.out.set 6 (.int .i64 ((nx + n : Nat) : Int)) (HJ6.out.j.set6 (nx + n))
          rw [show ((nx + n : Nat) : Int) = (nx : Int) + (n : Int) by omega] at hs3 hs4
          have HO7 := Lib.hid (HO6.out.set (i := 6) (x := .int .i64 ((nx : Int) + (n : Int))) HJ6.out.j)
          have HQ7 := Lib.hid (HQ6.out.setNew (p := ⟨bj, 6, none⟩) hbj (.int .i64 ((nx : Int) + (n : Int))))
          have HJ7 := Lib.hid hs3
          have hc7 := hs3.j.c6
          clear hs3 hs4 HJ6 HQ6 HO6
          go_wp2_with fail
          go_roundw
          case rel => exact ⟨acc ++ [pl], nx + n, mf', by omega, by omega, by omega, by rw [List.length_append, List.length_singleton]; omega, by rw [List.length_append, List.length_singleton, List.append_assoc]; exact HRG3.out, by rw [List.map_append]; exact HO7.out, by rw [List.length_append, List.length_singleton]; exact HJ7.out, HQ7.out⟩
          case measure => rw [hc7, CR6.out]; simp [intOf]; omega
        · rw [if_neg (fun h => hu h.2)] at HRG2
          have HRG3 := Lib.hid HRG2
          clear hu HRG2 HP HPL
          go_wp2_with fail
          refine hK.out _ _ ⟨⟨w3, hqd.trans hq3⟩, rfl⟩ ?_
          clear hK K
          (repeat (go_big_quiet_step (fail)))
          refine wpQuiet_nil ?_
          refine NoPanic.normal ?_
          have hqa := hqd.trans hq3
          have HJ3 := Lib.hid (HJa.out.q hqa)
          have HQ3 := Lib.hid (HQa.out.trans hqa)
          have HO3 := Lib.hid (HOa.out.q hqa)
          clear HJa HQa HOa hqa hqd hq3
          go_wp2_with fail
          go_ret3
          exact ⟨⟨bj, _, rfl, by rw [HR0.out, HRG3.out]; simpa using HO3.out, by rw [HR0.out, HRG3.out]; simpa [foundJ] using HJ3.out, hbj⟩, HQ3.out⟩
      · have g1 : decide (nx < half) = false := decide_eq_false hlt
        refine wp_seq_k fun K hK => ?_
        refine wp_seq_k fun K hK => ?_
        refine wp_region_q (by kernel_rfl) (by kernel_rfl) ?_
        (repeat (go_big_quiet_step (fail)))
        refine wpQuiet_nil ?_
        rintro wa ⟨ma, hma⟩
        have hqa : Q wr wa := by rw [hma]; exact ma.le
        have HJa := Lib.hid (HJr.out.q hqa)
        have HQa := Lib.hid (HQr.out.trans hqa)
        have HOa := Lib.hid (HOS.out.q hqa)
        clear hma ma hqa k6 k2 c6 HJr HQr HOS
        have HRG3 : Hid (recGo H E half mf nx acc.length = ([], nx)) := Lib.hid (recGo_end hlt)
        go_wp2_with fail
        go_ret3
        exact ⟨⟨bj, _, rfl, by rw [HR0.out, HRG.out, HRG3.out]; simpa using HOa.out, by rw [HR0.out, HRG.out, HRG3.out]; simpa [foundJ] using HJa.out, hbj⟩, HQa.out⟩
end Go.Proofs.YtcbepjepcabllaaGreatDoor
