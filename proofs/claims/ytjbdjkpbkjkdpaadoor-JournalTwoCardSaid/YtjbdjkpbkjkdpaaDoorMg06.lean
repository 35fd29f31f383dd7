/- Texts of this proof, laid into one: JnG, JnH, JnI, JnJ. -/
import Derived.Test.YtjbdjkpbkjkdpaaDoorMg05
import Derived.Deep.DeepCutAuto
/- A journal's Open. -/
set_option linter.unusedVariables false
set_option linter.unusedSimpArgs false
namespace Go.Proofs.YtjbdjkpbkjkdpaaDoor
open Go Go.RowKit
theorem oneStr' : OneCell Tryd.prog 22 9 (.string ⟨#[]⟩) 16 := ⟨Tryd.underlying22, by kernel_rfl, rfl⟩
/-- append(l, s), and what it leaves alone. -/
theorem wpList_append_s {ops : Array Oper} {rest : List Oper} {o : Oper} {a : Act} {R : Exit → Act → World → Prop} (hgd : o.guard = none) (s x : Operand)
    (ho : o.op = .call { callee := .builtin .append, args := #[s, x], argTypes := #[22, 22] })
    (w0 W : World) (v : Value) (us : List Value) (u : List UInt8) (hs : a.eval s = v) (hown : OwnS 9 w0 W v us) (hx : a.eval x = .slice (some ⟨W.heap.size, 0, none⟩) 1 1) (hw0 : w0.heap.size ≤ W.heap.size) (hb : us.length ≤ 1000000)
    (h : ∀ v' w', OwnS 9 w0 w' v' (us ++ [strV u]) → W.grownBy w' v.ownBlock → wpList Tryd.prog ops R rest (a.put o.dst v') w') : wpList Tryd.prog ops R (o :: rest) a (W.alloc (.cells #[strV u] 9)) := by
  obtain ⟨i, hi, hz, hsz, hby⟩ := info_parts oneStr'.info
  refine wpList_append_own (w := W.alloc (.cells #[strV u] 9)) hgd s x 22 ho w0.heap.size 9 i _ 1 16 oneStr'.under hi hz hsz hby oneStr'.zsize (by decide) v us.length us hs (World.ownsRow.alloc hown _) ⟨W.heap.size, 0, none⟩ 1 1 [strV u] hx rfl ?_ (by simp [strV, Value.oneCell']) (by unfold maxLen; omega) (by omega) (by simp; omega) ?_
  · intro j y hj
    have e : (Addr.add ⟨W.heap.size, 0, none⟩ j) = ⟨W.heap.size, j, none⟩ := by unfold Addr.add; split <;> simp_all
    rw [e, cell_of_row _ _ _ _ _ _ (MapKept.heap_alloc W _).1]
    simpa using hj
  · intro v' w' h2 hg _
    refine h v' w' ?_ ((World.grownBy_alloc W _ _).trans hg)
    unfold OwnS; rw [List.length_append]; exact h2
theorem OwnS.type {w0 w : World} {v : Value} {us : List Value} (h : OwnS 9 w0 w v us) {k : Nat} (hk : v.ownBlock = some k) : w0.heap.size ≤ k ∧ elemT w k = some 9 := by
  rcases h.2 with ⟨rfl, _⟩ | ⟨g, cap, cur, rfl, h1, h2, _⟩
  · cases hk
  · have e : g = k := by simpa [Value.ownBlock] using hk
    subst e
    exact ⟨h1, elemT_of h2⟩
theorem JD.gbo {w0 w1 w w' : World} {bj bd bp gh : Nat} {j : JrnS} {d : DskS} {v : Value} {us : List Value} (h : JD w0 w bj bd bp gh j d) (ho : OwnS 9 w1 w v us) (hg : w.grownBy w' v.ownBlock) : JD w0 w' bj bd bp gh j d := by
  cases hv : v.ownBlock with
  | none =>
    rw [hv] at hg
    exact h.q ⟨hg.os, hg.tape, hg.output, hg.size, fun k hk => hg.block k hk (by simp)⟩
  | some g =>
    obtain ⟨_, ht⟩ := ho.type hv
    rw [hv] at hg
    refine ⟨?_, h.d.gb hg (by rw [ht]; decide), h.n⟩
    have hj := h.j
    unfold JAt at hj ⊢
    rw [hg.block bj (lt_of_heap hj) (fun e => by injection e with e; subst e; rw [elemT_of hj] at ht; revert ht; decide)]
    exact hj
theorem OwnS.set {w1 w : World} {v x : Value} {us : List Value} {bj bd i : Nat} {j : JrnS} (h : OwnS 9 w1 w v us) (hj : JAt w bj bd j) : OwnS 9 w1 (w.setCell ⟨bj, i, none⟩ x) v us := by
  refine World.ownsRow.kept h (gb_setCell w bj i x) (.inr fun e => ?_)
  obtain ⟨_, ht⟩ := OwnS.type h e
  rw [elemT_of hj] at ht; revert ht; decide
theorem epN_le (s : List UInt8) : epN s ≤ 4611686018427387904 := by
  unfold epN
  split
  · omega
  · split
    · rename_i e _ h
      unfold isHead at h
      rw [Bool.and_eq_true] at h
      have := right_spec (of_decide_eq_true h.1).1
      omega
    · omega
/-- The records of a half, from a sector on: they, and the first sector behind them. -/
def recGo (h : List UInt8) (e half : Nat) : Nat → Nat → Nat → List (List UInt8) × Nat
  | 0, next, _ => ([], next)
  | f + 1, next, many => if next < half ∧ UnpOk (sub h (next * 64) h.length) (e : Int) ((many + 1 : Nat) : Int) then
      (payL (sub h (next * 64) h.length) :: (recGo h e half f (next + (endsN (nAt (sub h (next * 64) h.length) 4)).toNat / 64) (many + 1)).1, (recGo h e half f (next + (endsN (nAt (sub h (next * 64) h.length) 4)).toNat / 64) (many + 1)).2)
    else ([], next)
theorem recGo_succ (h : List UInt8) (e half f next many : Nat) : recGo h e half (f + 1) next many = if next < half ∧ UnpOk (sub h (next * 64) h.length) (e : Int) ((many + 1 : Nat) : Int) then
      (payL (sub h (next * 64) h.length) :: (recGo h e half f (next + (endsN (nAt (sub h (next * 64) h.length) 4)).toNat / 64) (many + 1)).1, (recGo h e half f (next + (endsN (nAt (sub h (next * 64) h.length) 4)).toNat / 64) (many + 1)).2)
    else ([], next) := rfl
theorem recGo_end {h : List UInt8} {e half f next many : Nat} (hn : ¬ next < half) : recGo h e half f next many = ([], next) := by
  cases f with
  | zero => rfl
  | succ f => unfold recGo; rw [if_neg (fun h => hn h.1)]
theorem unp_len {P : List UInt8} {e n : Int} (hu : UnpOk P e n) : ∃ k : Nat, endsN (nAt P 4) = 64 * (k : Int) ∧ 1 ≤ k ∧ 64 * k ≤ P.length ∧ (endsN (nAt P 4)).toNat / 64 = k := by
  have h := hu.2.2.2.2.1
  have hx : endsN (nAt P 4) = 64 * (((nAt P 4 : Int) + 87) / 64) := by unfold endsN; omega
  exact ⟨((nAt P 4 + 87) / 64 : Nat), by omega, by omega, by omega, by omega⟩
theorem unp_le {n l m nx half : Nat} (h1 : 64 * n ≤ l) (h2 : l = m - nx * 64) (h3 : m = 64 * half) : nx + n ≤ half ∨ n = 0 := by omega
/-- What Open finds: is it the second half, the epoch, the records, what is behind them. -/
structure FoundS where
  second : Bool
  epoch : Nat
  recs : List (List UInt8)
  next : Nat
def foundMk (s : Bool) (e : Nat) (h : List UInt8) (half : Nat) : FoundS := ⟨s, e, (recGo h e half half 1 0).1, (recGo h e half half 1 0).2⟩
def foundOf (a b : List UInt8) (half : Nat) : FoundS := foundMk (decide (epN a < epN b)) (if epN a < epN b then epN b else epN a) (if epN a < epN b then b else a) half
def openF (f half : Nat) (d : DskS) : FoundS := foundOf (halfL (jrn0 f half) false d half) (halfL (jrn0 f half) true d half) half
def foundJ (f half : Nat) (x : FoundS) : JrnS := ⟨f, half, x.second, x.epoch, x.recs.length, x.next, false⟩
set_option maxRecDepth 100000 in
set_option maxHeartbeats 8000000 in
theorem Open_ok {w0 w : World} {bd bp gh : Nat} {d : DskS} (f half : Nat) (h : DAt w0 w bd bp gh d) (hh : 2 ≤ half) (hn : f + 2 * half ≤ d.n) (h0 : w0.heap.size ≤ w.heap.size) (hw : d.wait.length ≤ 900000) (hg : d.gone = false ∧ d.dead = false) (he : (openF f half d).epoch ≠ 0) :
    Calls Tryd.prog 13 #[.pointer (some ⟨bd, 0, none⟩), .int .i64 (f : Int), .int .i64 ((2 * half : Nat) : Int)] w fun e w' => (∃ bj v, e = .returned (.tuple #[.pointer (some ⟨bj, 0, none⟩), v, .nilIface]) ∧ OwnS 9 w w' v ((openF f half d).recs.map strV) ∧ JD w0 w' bj bd bp gh (foundJ f half (openF f half d)) d ∧ w.heap.size ≤ bj) ∧ Q w w' := by
  have HB := Lib.hid (begin_ok f half h hh hn h0)
  have hokd := Lib.hid h.ok
  have hm8 := h.ok.most
  obtain ⟨F, hF⟩ : ∃ F, openF f half d = F := ⟨_, rfl⟩
  rw [hF] at he ⊢
  have HF := Lib.hid hF
  unfold openF at HF
  have HE0 := Lib.hid he
  have HLD := Lib.hid (fun (sec : Bool) (bj : Nat) (w' : World) (hj : JD w0 w' bj bd bp gh (jrn0 f half) d) (h0' : w0.heap.size ≤ w'.heap.size) => load_any sec hj hn hw hg h0')
  have hla : (halfL (jrn0 f half) false d half).length = 64 * half := halfL_len hokd.out hn half (Nat.le_refl _)
  have hlb : (halfL (jrn0 f half) true d half).length = 64 * half := halfL_len hokd.out hn half (Nat.le_refl _)
  obtain ⟨a, ha⟩ : ∃ a, halfL (jrn0 f half) false d half = a := ⟨_, rfl⟩
  obtain ⟨b, hb⟩ : ∃ a, halfL (jrn0 f half) true d half = a := ⟨_, rfl⟩
  have HLA : Hid (∀ bj w', JD w0 w' bj bd bp gh (jrn0 f half) d → w0.heap.size ≤ w'.heap.size → Calls Tryd.prog 38 #[.pointer (some ⟨bj, 0, none⟩), .bool false] w' fun e w'' => e = .returned (.tuple #[.string ⟨a.toArray⟩, .nilIface]) ∧ Q w' w'') := Lib.hid (fun bj w' hj h0' => by rw [← ha]; exact HLD.out false bj w' hj h0')
  have HLB : Hid (∀ bj w', JD w0 w' bj bd bp gh (jrn0 f half) d → w0.heap.size ≤ w'.heap.size → Calls Tryd.prog 38 #[.pointer (some ⟨bj, 0, none⟩), .bool true] w' fun e w'' => e = .returned (.tuple #[.string ⟨b.toArray⟩, .nilIface]) ∧ Q w' w'') := Lib.hid (fun bj w' hj h0' => by rw [← hb]; exact HLD.out true bj w' hj h0')
  rw [ha] at hla
  rw [hb] at hlb
  rw [ha, hb] at HF
  unfold foundOf at HF
  have hbe := epN_le b
  have hae := epN_le a
  have HEA := Lib.hid (fun w => epochOf_any a w (by omega) (by omega))
  have HEB := Lib.hid (fun w => epochOf_any b w (by omega) (by omega))
  obtain ⟨ea, hea⟩ : ∃ e, epN a = e := ⟨_, rfl⟩
  obtain ⟨eb, heb⟩ : ∃ e, epN b = e := ⟨_, rfl⟩
  rw [hea] at hae HEA
  rw [heb] at hbe HEB
  rw [hea, heb] at HF
  have HL1 := Lib.hid hla
  have HL2 := Lib.hid hlb
  have hh' : half ≤ 4096 := by omega
  obtain ⟨s, hs⟩ : ∃ s, s = 2 * half := ⟨_, rfl⟩
  rw [← hs] at HB ⊢
  clear h hF he HLD ha hb hea heb hla hlb hs hg hn
  go_enter Tryd.func13, Tryd.ntmps13
  go_wp2_with fail
  refine HB.out.mono ?_
  rintro e w1 ⟨⟨bj, rfl, hj1, hbj⟩, hq1⟩
  have HJ1 := Lib.hid hj1
  have HQ1 := Lib.hid hq1
  have h01 := Nat.le_trans h0 hq1.size
  clear hj1 hq1 HB
  go_wp2_with fail
  refine (HLA.out bj w1 HJ1.out h01).mono ?_
  rintro e w2 ⟨rfl, hq2⟩
  have HJ2 := Lib.hid (HJ1.out.q hq2)
  have HQ2 := Lib.hid (HQ1.out.trans hq2)
  have h02 := Nat.le_trans h01 hq2.size
  clear hq2 HJ1 HQ1
  go_wp2_with fail
  refine (HLB.out bj w2 HJ2.out h02).mono ?_
  rintro e w3 ⟨rfl, hq3⟩
  have HJ3 := Lib.hid (HJ2.out.q hq3)
  have HQ3 := Lib.hid (HQ2.out.trans hq3)
  have h03 := Nat.le_trans h02 hq3.size
  clear hq3 HJ2 HQ2 HLA HLB
  go_wp2_with fail
  refine (HEA.out w3).mono ?_
  rintro e w4 ⟨rfl, hq4⟩
  have HJ4 := Lib.hid (HJ3.out.q hq4)
  have HQ4 := Lib.hid (HQ3.out.trans hq4)
  have h04 := Nat.le_trans h03 hq4.size
  have c4 := HJ4.out.j.c4
  have f4 := HJ4.out.j.fz 4
  obtain ⟨hs1, hs2⟩ := HJ4.out.set 4 (.int .i64 (ea : Int)) (HJ4.out.j.set4 ea)
  have hqs := HQ4.out.setNew (p := ⟨bj, 4, none⟩) hbj (.int .i64 (ea : Int))
  clear hq4 HJ3 HQ3
  go_upto_region 11 with (fail)
  obtain ⟨W5, hW5⟩ : ∃ W, w4.setCell ⟨bj, 4, none⟩ (.int .i64 (ea : Int)) = W := ⟨_, rfl⟩
  rw [hW5] at hs1 hs2 hqs ⊢
  have HJ5 := Lib.hid hs1
  have HQ5 := Lib.hid hqs
  have h05 := Nat.le_trans h04 hs2.size
  clear hs1 hs2 hqs hW5 c4 f4 HJ4 HQ4
  go_wp2_with fail
  refine (HEB.out W5).mono ?_
  rintro e w6 ⟨rfl, hq6⟩
  have HJ6 := Lib.hid (HJ5.out.q hq6)
  have HQ6 := Lib.hid (HQ5.out.trans hq6)
  have h06 := Nat.le_trans h05 hq6.size
  have c4 := HJ6.out.j.c4
  have f4 := HJ6.out.j.fz 4
  have c3 := HJ6.out.j.c3
  have f3 := HJ6.out.j.fz 3
  simp only at c4 c3
  clear hq6 HJ5 HQ5 HEA HEB
  go_upto_if 58 with (fail)
  go_cut [11] (fun sv wx => sv = .string ⟨(if ea < eb then b else a).toArray⟩ ∧ Hid (JD w0 wx bj bd bp gh { jrn0 f half with second := decide (ea < eb), epoch := if ea < eb then eb else ea } d) ∧ Hid (Q w wx) ∧ w0.heap.size ≤ wx.heap.size)
  case first =>
    by_cases hlt : ea < eb
    · have g1 : decide (ea < eb) = true := decide_eq_true hlt
      obtain ⟨hs1, hs2⟩ := HJ6.out.set 4 (.int .i64 (eb : Int)) (HJ6.out.j.set4 eb)
      obtain ⟨hs3, hs4⟩ := hs1.set 3 (.bool true) (hs1.j.set3 true)
      have hqs := (HQ6.out.setNew (p := ⟨bj, 4, none⟩) hbj (.int .i64 (eb : Int))).setNew (p := ⟨bj, 3, none⟩) hbj (.bool true)
      have HJ7 := Lib.hid hs3
      have HQ7 := Lib.hid hqs
      have h07 := Nat.le_trans h06 (hs2.trans hs4).size
      have HLT := Lib.hid hlt
      clear hs1 hs2 hs3 hs4 hqs hlt
      go_wp2_with fail
      go_meet
      rw [if_pos HLT.out, if_pos HLT.out, g1]
      exact ⟨rfl, HJ7.out, HQ7.out, h07⟩
    · have g1 : decide (ea < eb) = false := decide_eq_false hlt
      have HLT := Lib.hid hlt
      clear hlt
      go_wp2_with fail
      go_meet
      rw [if_neg HLT.out, if_neg HLT.out, g1]
      exact ⟨rfl, HJ6.out, HQ6.out, h06⟩
  case rest =>
    obtain ⟨rfl, HJ7, HQ7, h07⟩ := hcut
    have hEb : (if ea < eb then eb else ea) ≤ 4611686018427387904 := by split <;> omega
    have hHl : (if ea < eb then b else a).length = 64 * half := by split; exact HL2.out; exact HL1.out
    obtain ⟨H, hH⟩ : ∃ h, (if ea < eb then b else a) = h := ⟨_, rfl⟩
    obtain ⟨E, hE⟩ : ∃ h, (if ea < eb then eb else ea) = h := ⟨_, rfl⟩
    obtain ⟨B, hB⟩ : ∃ h, decide (ea < eb) = h := ⟨_, rfl⟩
    rw [hH, hE, hB] at HF
    rw [hE, hB] at HJ7
    rw [hE] at hEb
    rw [hH] at hHl ⊢
    have HE1 : Hid (E ≠ 0) := Lib.hid (by have := HE0.out; rw [← HF.out] at this; exact this)
    have c4 := HJ7.out.j.c4
    simp only at c4
    have g0 : ((E : Int) == 0) = false := by have := HE1.out; simp; omega
    have HHL := Lib.hid hHl
    clear hH hE hB c3 f3 f4 HJ6 HQ6 h06 HL1 HL2 hHl
    go_upto_region 17 with (fail)
    have HR0 : Hid (F = ⟨B, E, (recGo H E half half 1 0).1, (recGo H E half half 1 0).2⟩) := Lib.hid HF.out.symm
    clear c4 g0
    go_loopw [14] (fun v wr => ∃ (acc : List (List UInt8)) (nx mf : Nat), 1 ≤ nx ∧ nx ≤ half ∧ half ≤ nx + mf ∧ acc.length < nx ∧ Hid (recGo H E half half 1 0 = (acc ++ (recGo H E half mf nx acc.length).1, (recGo H E half mf nx acc.length).2)) ∧ Hid (OwnS 9 w wr v (acc.map strV)) ∧ Hid (JD w0 wr bj bd bp gh ⟨f, half, B, E, acc.length, nx, false⟩ d) ∧ Hid (Q w wr)) (fun _ wr => half - (intOf ((wr.cell? ⟨bj, 6, none⟩).getD undef)).toNat)
    case atStart => exact ⟨[], 1, half, by omega, by omega, by omega, by simp, rfl, OwnS.nil _ _ _, HJ7.out, HQ7.out⟩
    case round =>
      obtain ⟨acc, nx, mf, hn1, hnh, hmf, hac, HRG, HOS, HJr, HQr⟩ := hrel
      have c6 := HJr.out.j.c6
      have CR6 := Lib.hid c6
      have k6 : ∀ m : QW wr, m.val.cell? ⟨bj, 6, none⟩ = some (.int .i64 (nx : Int)) := fun m => m.cell c6
      have k2 : ∀ m : QW wr, m.val.cell? ⟨bj, 2, none⟩ = some (.int .i64 (half : Int)) := fun m => m.cell HJr.out.j.c2
      by_cases hlt : nx < half
      · have g1 : decide (nx < half) = true := decide_eq_true hlt
        refine wp_seq_k fun K hK => ?_
        refine wp_seq_k fun K hK => ?_
        refine wp_region_q (by kernel_rfl) (by kernel_rfl) ?_
        (repeat (go_big_quiet_step (fail)))
        refine wpQuiet_nil ?_
        rintro wa ⟨ma, hma⟩
        have hqa : Q wr wa := by rw [hma]; exact ma.le
        have HJa := Lib.hid (HJr.out.q hqa)
        have HQa := Lib.hid (HQr.out.trans hqa)
        have HOa := Lib.hid (HOS.out.q hqa)
        have hsl : nx * 64 ≤ H.length := by have := HHL.out; omega
        have hHb : H.length ≤ 262144 := by have := HHL.out; omega
        have hnb : (nx : Int) ≤ 4096 := by omega
        have hab : (acc.length : Int) ≤ 4096 := by omega
        clear hma ma hqa k6 k2 c6 HJr HQr HOS
        go_upto_region 18 with (fail)
        have k6 : ∀ m : QW wa, m.val.cell? ⟨bj, 6, none⟩ = some (.int .i64 (nx : Int)) := fun m => m.cell HJa.out.j.c6
        have k4 : ∀ m : QW wa, m.val.cell? ⟨bj, 4, none⟩ = some (.int .i64 (E : Int)) := fun m => m.cell HJa.out.j.c4
        have k5 : ∀ m : QW wa, m.val.cell? ⟨bj, 5, none⟩ = some (.int .i64 (acc.length : Int)) := fun m => m.cell HJa.out.j.c5
        refine wp_region_noPanic ?_
        refine wp_fin [] [([0, 1, 2, 3, 4, 5, 6, 7, 8, 9, 10, 11, 12, 13, 14, 15], [16]), ([17, 18, 19, 20, 21, 22, 23], [])] [] (by kernel_rfl) (by kernel_rfl) (fun _ _ _ _ _ h => h) ?_
        simp only [wpFin, wpListK, List.map_cons, List.map_nil, Array.getD_eq_getD_getElem?, List.getElem?_toArray, List.getElem?_cons_succ, List.getElem?_cons_zero, Option.getD_some]
        refine wpQuiet_nil ?_
        (repeat (go_big_quiet_step (fail)))
        refine wpQuiet_nil ?_
        obtain ⟨Wd, hWd⟩ : ∃ W, wa.drew = W := ⟨_, rfl⟩
        have hqd : Q wa Wd := by rw [← hWd]; exact (Q.refl wa).drew
        rw [hWd]
        clear hWd k4 k5 k6
        intro K hK
        go_wp2_with fail
        obtain ⟨P, hP⟩ : ∃ P, sub H (nx * 64) H.length = P := ⟨_, rfl⟩
        have hPl : P.length = H.length - nx * 64 := by rw [← hP, length_sub]; omega
        have HHL2 := HHL.out
        have hPb : P.length ≤ 281474976710656 := by omega
        rw [hP]
        refine (Unpack_any P (E : Int) ((acc.length : Int) + 1) Wd hPb).mono ?_
        clear hPb
        obtain ⟨mf', rfl⟩ : ∃ m, mf = m + 1 := ⟨mf - 1, by omega⟩
        have HRG2 := HRG.out
        rw [recGo_succ, hP, show ((acc.length + 1 : Nat) : Int) = (acc.length : Int) + 1 by omega] at HRG2
        have HP := Lib.hid hP
        have HPL := Lib.hid hPl
        clear hP hPl HHL2
        rintro e3 w3 ⟨⟨hu, rfl⟩ | ⟨hu, b5, rfl⟩, hq3⟩
        · rw [if_pos ⟨hlt, hu⟩] at HRG2
          obtain ⟨n, hn, hn1', hnn, hdv⟩ := unp_len hu
          have hnn : nx + n ≤ half := (unp_le hnn HPL.out HHL.out).resolve_right (Nat.pos_iff_ne_zero.1 hn1')
          rw [hdv] at HRG2
          rw [hn]
          obtain ⟨pl, hpl⟩ : ∃ pl, payL P = pl := ⟨_, rfl⟩
          rw [hpl] at HRG2 ⊢
          have HRG3 := Lib.hid HRG2
          clear hu HRG2 hdv hpl hn HP HPL
          go_wp2_with fail
          refine hK.out _ _ ⟨⟨w3, hqd.trans hq3⟩, rfl⟩ ?_
          clear hK K
          (repeat (go_big_quiet_step (fail)))
          refine wpQuiet_nil ?_
          refine NoPanic.normal ?_
          have hqa := hqd.trans hq3
          have HJ3 := Lib.hid (HJa.out.q hqa)
          have HQ3 := Lib.hid (HQa.out.trans hqa)
          have HO3 := Lib.hid (HOa.out.q hqa)
          clear HJa HQa HOa hqa hqd hq3
          go_upto_region 21 with (at_builtin; refine wpList_append_s rfl (.tmp 105) (.tmp 107) rfl w w3 _ (acc.map strV) pl (by rfl) HO3.out (by rfl) (by exact HQ3.out.size) (by rw [List.length_map]; omega) ?_; intro v5 w5 ho5 hg5)
          have HO5 := Lib.hid ho5
          have HJ5 := Lib.hid (HJ3.out.gbo HO3.out hg5)
          have HQ5 := Lib.hid (gb_q_own hg5 HQ3.out (fun k hk => HO3.out.block hk))
          clear ho5 hg5 HJ3 HQ3 HO3
          have c5 := HJ5.out.j.c5
          have f5 := HJ5.out.j.fz 5
          simp only at c5
          obtain ⟨hs1, hs2⟩ := HJ5.out.set 5 (.int .i64 ((acc.length + 1 : Nat) : Int)) (HJ5.out.j.set5 (acc.length + 1))
          go_upto_region 22 with (fail)
          rw [show ((acc.length + 1 : Nat) : Int) = (acc.length : Int) + 1 by omega] at hs1 hs2
          have HO6 := Lib.hid (HO5.out.set (i := 5) (x := .int .i64 ((acc.length : Int) + 1)) HJ5.out.j)
          have HQ6 := Lib.hid (HQ5.out.setNew (p := ⟨bj, 5, none⟩) hbj (.int .i64 ((acc.length : Int) + 1)))
          obtain ⟨W6, hW6⟩ : ∃ W, w5.setCell ⟨bj, 5, none⟩ (.int .i64 ((acc.length : Int) + 1)) = W := ⟨_, rfl⟩
          rw [hW6] at hs1 hs2 HO6 HQ6 ⊢
          have HJ6 := Lib.hid hs1
          clear hs1 hs2 hW6 c5 f5 HJ5 HQ5 HO5
          have c6 := HJ6.out.j.c6
          have f6 := HJ6.out.j.fz 6
          simp only at c6
          have m2 : (n : Int) ≤ 8192 := by omega
          obtain ⟨hs3, hs4⟩ := HJ6.out.set 6 (.int .i64 ((nx + n : Nat) : Int)) (HJ6.out.j.set6 (nx + n))
          rw [show ((nx + n : Nat) : Int) = (nx : Int) + (n : Int) by omega] at hs3 hs4
          have HO7 := Lib.hid (HO6.out.set (i := 6) (x := .int .i64 ((nx : Int) + (n : Int))) HJ6.out.j)
          have HQ7 := Lib.hid (HQ6.out.setNew (p := ⟨bj, 6, none⟩) hbj (.int .i64 ((nx : Int) + (n : Int))))
          have HJ7 := Lib.hid hs3
          have hc7 := hs3.j.c6
          clear hs3 hs4 HJ6 HQ6 HO6
          go_wp2_with fail
          go_roundw
          case rel => exact ⟨acc ++ [pl], nx + n, mf', by omega, by omega, by omega, by rw [List.length_append, List.length_singleton]; omega, by rw [List.length_append, List.length_singleton, List.append_assoc]; exact HRG3.out, by rw [List.map_append]; exact HO7.out, by rw [List.length_append, List.length_singleton]; exact HJ7.out, HQ7.out⟩
          case measure => rw [hc7, CR6.out]; simp [intOf]; omega
        · rw [if_neg (fun h => hu h.2)] at HRG2
          have HRG3 := Lib.hid HRG2
          clear hu HRG2 HP HPL
          go_wp2_with fail
          refine hK.out _ _ ⟨⟨w3, hqd.trans hq3⟩, rfl⟩ ?_
          clear hK K
          (repeat (go_big_quiet_step (fail)))
          refine wpQuiet_nil ?_
          refine NoPanic.normal ?_
          have hqa := hqd.trans hq3
          have HJ3 := Lib.hid (HJa.out.q hqa)
          have HQ3 := Lib.hid (HQa.out.trans hqa)
          have HO3 := Lib.hid (HOa.out.q hqa)
          clear HJa HQa HOa hqa hqd hq3
          go_wp2_with fail
          go_ret3
          exact ⟨⟨bj, _, rfl, by rw [HR0.out, HRG3.out]; simpa using HO3.out, by rw [HR0.out, HRG3.out]; simpa [foundJ] using HJ3.out, hbj⟩, HQ3.out⟩
      · have g1 : decide (nx < half) = false := decide_eq_false hlt
        refine wp_seq_k fun K hK => ?_
        refine wp_seq_k fun K hK => ?_
        refine wp_region_q (by kernel_rfl) (by kernel_rfl) ?_
        (repeat (go_big_quiet_step (fail)))
        refine wpQuiet_nil ?_
        rintro wa ⟨ma, hma⟩
        have hqa : Q wr wa := by rw [hma]; exact ma.le
        have HJa := Lib.hid (HJr.out.q hqa)
        have HQa := Lib.hid (HQr.out.trans hqa)
        have HOa := Lib.hid (HOS.out.q hqa)
        clear hma ma hqa k6 k2 c6 HJr HQr HOS
        have HRG3 : Hid (recGo H E half mf nx acc.length = ([], nx)) := Lib.hid (recGo_end hlt)
        go_wp2_with fail
        go_ret3
        exact ⟨⟨bj, _, rfl, by rw [HR0.out, HRG.out, HRG3.out]; simpa using HOa.out, by rw [HR0.out, HRG.out, HRG3.out]; simpa [foundJ] using HJa.out, hbj⟩, HQa.out⟩
end Go.Proofs.YtjbdjkpbkjkdpaaDoor
/- A journal's anew. -/
set_option linter.unusedVariables false
set_option linter.unusedSimpArgs false
namespace Go.Proofs.YtjbdjkpbkjkdpaaDoor
open Go Go.RowKit
/-- A slice of texts in a block of texts. -/
def StrS (w : World) (v : Value) (ls : List (List UInt8)) : Prop := ∃ A cap, v = .slice A ls.length cap ∧ StrsAt w A ls.length ls ∧ ∀ ad, A = some ad → elemT w ad.block = some 9 ∧ ad.block < w.heap.size
theorem elemT_heap {w w' : World} {k : Nat} (h : w'.heap[k]? = w.heap[k]?) : elemT w' k = elemT w k := by unfold elemT; rw [h]
theorem cell_heap {w w' : World} {a : Addr} (h : w'.heap[a.block]? = w.heap[a.block]?) : w'.cell? a = w.cell? a := by unfold World.cell?; rw [h]
theorem add_block (a : Addr) (i : Nat) : (a.add i).block = a.block := by unfold Addr.add; split <;> rfl
theorem StrS.heap {w w' : World} {v : Value} {ls : List (List UInt8)} (h : StrS w v ls) (hs : w.heap.size ≤ w'.heap.size) (hh : ∀ k, k < w.heap.size → elemT w k = some 9 → w'.heap[k]? = w.heap[k]?) : StrS w' v ls := by
  obtain ⟨A, cap, hv, ⟨h1, h2⟩, h3⟩ := h
  refine ⟨A, cap, hv, ⟨h1, fun h0 => ?_⟩, fun ad e => ?_⟩
  · obtain ⟨ad, e, hc⟩ := h2 h0
    refine ⟨ad, e, fun i hi => ?_⟩
    have e1 : w'.cell? (ad.add i) = w.cell? (ad.add i) := cell_heap (by rw [add_block]; exact hh _ (h3 ad e).2 (h3 ad e).1)
    exact e1.trans (hc i hi)
  · obtain ⟨e1, e2⟩ := h3 ad e
    exact ⟨by rw [elemT_heap (hh _ e2 e1)]; exact e1, by omega⟩
theorem StrS.q {w w' : World} {v : Value} {ls : List (List UInt8)} (h : StrS w v ls) (hq : Q w w') : StrS w' v ls := h.heap hq.size fun k hk _ => Below.block hq k hk
theorem StrS.k {w0 w w' : World} {v : Value} {ls : List (List UInt8)} (h : StrS w v ls) (hk : K w0 [] w w') : StrS w' v ls := h.heap hk.size fun k h1 h2 => hk.block k h1 (by simp) (.inr (by rw [h2]; decide))
theorem StrS.kj {w0 w w' : World} {v : Value} {ls : List (List UInt8)} {bj bd : Nat} {j : JrnS} (h : StrS w v ls) (hk : K w0 [bj] w w') (hj : JAt w bj bd j) : StrS w' v ls :=
  h.heap hk.size fun k h1 h2 => hk.block k h1 (by
    intro e
    rw [List.mem_singleton.1 e, elemT_of hj] at h2; revert h2; decide) (.inr (by rw [h2]; decide))
theorem OwnS.toS {w0 w : World} {v : Value} {ls : List (List UInt8)} (h : OwnS 9 w0 w v (ls.map strV)) : StrS w v ls := by
  obtain ⟨A, cap, hv, h1, h2, hs⟩ := h.strs
  refine ⟨A, cap, hv, hs, fun ad e => ?_⟩
  have hb : v.ownBlock = some ad.block := by
    rcases h.2 with ⟨e1, _⟩ | ⟨g, cp, cur, e1, _⟩
    · rw [hv, e] at e1; cases e1
    · rw [hv, e] at e1; injection e1 with e1 _ _; injection e1 with e1; rw [hv, e, e1]; rfl
  have := OwnS.type h hb
  refine ⟨this.2, ?_⟩
  rcases h.2 with ⟨e1, _⟩ | ⟨g, cp, cur, e1, _, hh, _⟩
  · rw [hv, e] at e1; cases e1
  · rw [hv, e] at e1; injection e1 with e1 _ _; injection e1 with e1; rw [e1]; exact lt_of_heap hh
def wrAll (j : JrnS) (sec : Bool) : Nat → List (List UInt8) → DskS → DskS × Int
  | _, [], d => (d, 0)
  | k, s :: r, d => bindE (wrJ j sec (s.length / 64) k s d) (wrAll j sec (k + s.length / 64) r)
def sumM (ls : List (List UInt8)) : Nat := (ls.map (·.length / 64)).sum
theorem sumM_cons (s : List UInt8) (r : List (List UInt8)) : sumM (s :: r) = s.length / 64 + sumM r := by simp [sumM]
theorem wrAll_wait (j : JrnS) (sec : Bool) (ls : List (List UInt8)) : ∀ (k : Nat) (d : DskS), (wrAll j sec k ls d).1.wait.length ≤ d.wait.length + sumM ls := by
  induction ls with
  | nil => intro k d; exact Nat.le_add_right _ _
  | cons s r ih =>
    intro k d
    rw [sumM_cons]
    unfold wrAll
    have h1 := wr_wait j sec (s.length / 64) k s d
    by_cases hz : (wrJ j sec (s.length / 64) k s d).2 = 0
    · rw [bindE_ok hz]
      have := ih (k + s.length / 64) (wrJ j sec (s.length / 64) k s d).1
      omega
    · rw [bindE_no hz]; omega
def anewJ (j : JrnS) (ls : List (List UInt8)) (d : DskS) : DskS × Int :=
  bindE (wrAll j (!j.second) 1 ls d) fun d1 => bindE (cleanJ j (!j.second) (1 + sumM ls) d1) fun d2 => bindE (wrJ j (!j.second) 1 0 (unmarkL (headL (j.epoch + 1))) d2) fun d3 => bindE (flushR d3) fun d4 => bindE (wrJ j (!j.second) 1 0 (headL (j.epoch + 1)) d4) flushR
set_option maxRecDepth 100000 in
set_option maxHeartbeats 4000000 in
theorem anew_any {w0 w : World} {bj bd bp gh : Nat} {j : JrnS} {d : DskS} (v : Value) (ls : List (List UInt8)) (h : JD w0 w bj bd bp gh j d) (hs : StrS w v ls) (hl : ∀ s ∈ ls, s.length = 64 * (s.length / 64) ∧ s.length / 64 ≤ 10000) (ho : j.Ok) (he : j.epoch < 4611686018427387904) (hm : sumM ls + 1 ≤ j.half) (hll : ls.length ≤ 100000) (hw : d.wait.length ≤ 900000) (h0 : w0.heap.size ≤ w.heap.size) :
    Calls Tryd.prog 41 #[.pointer (some ⟨bj, 0, none⟩), v] w fun e w' => (∃ v, e = .returned v ∧ ErrIs w' v (anewJ j ls d).2 0) ∧ JD w0 w' bj bd bp gh j (anewJ j ls d).1 ∧ K w0 [] w w' := by
  have HJ := Lib.hid h
  have HS := Lib.hid hs
  have HL := Lib.hid hl
  have ho1 := ho.place
  have hlz : (ls.length : Int) ≤ 100000 := by omega
  obtain ⟨R, hR⟩ : ∃ R, anewJ j ls d = R := ⟨_, rfl⟩
  have HR := Lib.hid hR
  rw [hR]
  unfold anewJ at HR
  have HO := Lib.hid ho
  obtain ⟨A, cap, rfl, hst, hty⟩ := hs
  obtain ⟨N, hN⟩ : ∃ N, ls.length = N := ⟨_, rfl⟩
  have HN := Lib.hid hN
  rw [hN] at hll hlz HS ⊢
  obtain ⟨sec, hsec⟩ : ∃ sec, (!j.second) = sec := ⟨_, rfl⟩
  rw [hsec] at HR
  have HSEC := Lib.hid hsec
  have HM := Lib.hid hm
  clear h hl hR ho hst hty hN hsec hm
  go_enter Tryd.func41, Tryd.ntmps41
  go_wp2_with fail
  go_loopw [5, 17] (fun kv iv wr => ∃ (i k : Nat) (d' : DskS), i ≤ N ∧ kv = .int .i64 (k : Int) ∧ iv = .int .i64 (i : Int) ∧ Hid (k + sumM (ls.drop i) = 1 + sumM ls) ∧ Hid (wrAll j sec 1 ls d = wrAll j sec k (ls.drop i) d') ∧ Hid (d'.wait.length + sumM (ls.drop i) ≤ 900000 + sumM ls) ∧ Hid (JD w0 wr bj bd bp gh j d') ∧ Hid (K w0 [] w wr)) (fun _ iv _ => N - (intOf iv).toNat)
  case atStart => exact ⟨0, 1, d, by omega, rfl, rfl, rfl, rfl, Nat.add_le_add_right hw _, HJ.out, K.q (Q.refl _)⟩
  case round =>
    obtain ⟨i, k, d', hi, rfl, rfl, HKS, HE, HW, HD, HK⟩ := hrel
    by_cases hlt : i < N
    · have g1 : decide (i < N) = true := decide_eq_true hlt
      obtain ⟨A2, cap2, e2, hst, hty⟩ := HS.out.k HK.out
      have hst2 : StrsAt wr A N ls := by rw [← HN.out]; injection e2 with e2 _ _; rw [e2]; exact hst
      obtain ⟨ad, rfl, hc⟩ := hst2.at hlt
      obtain ⟨s, hs⟩ : ∃ s, gL ls i = s := ⟨_, rfl⟩
      have hdr : ls.drop i = s :: ls.drop (i + 1) := by
        have := HN.out
        rw [List.drop_eq_getElem_cons (by omega), ← hs]; congr 1
        simp [gL, List.getD, show i < ls.length by omega]
      have hsm : s ∈ ls := List.mem_of_mem_drop (i := i) (by rw [hdr]; exact List.mem_cons_self)
      obtain ⟨l1, l2⟩ := HL.out s hsm
      rw [hdr] at HKS HE HW
      rw [sumM_cons] at HKS HW
      rw [hs] at hc
      obtain ⟨m, hm⟩ : ∃ m, s.length / 64 = m := ⟨_, rfl⟩
      have HE2 : Hid (wrAll j sec 1 ls d = bindE (wrJ j sec m k s d') (wrAll j sec (k + m) (ls.drop (i + 1)))) := Lib.hid (by rw [HE.out, ← hm]; rfl)
      rw [hm] at l1 l2 HKS HW
      have hkb : k + m ≤ j.half := by have := HKS.out; have := HM.out; omega
      have hwb : d'.wait.length + m ≤ 1000000 := by have := HW.out; have := HM.out; omega
      have hdv : (s.length : Int) / 64 = (m : Int) := by omega
      have hsl : s.length ≤ 640000 := by omega
      have hki : (k : Int) + (m : Int) ≤ 8192 := by omega
      have HL1 := Lib.hid l1
      have h0r := Nat.le_trans h0 HK.out.size
      have c3 := HD.out.j.c3
      clear hst hty hst2 e2 hs hdr hsm HE hm l1
      go_wp2_with fail
      rw [HSEC.out]
      refine (wr_any sec k m s HD.out HL1.out (by omega) (by omega) hwb h0r).mono ?_
      rintro e w2 ⟨⟨v, rfl, hv⟩, hd, hk⟩
      have hwl := wr_wait j sec m k s d'
      obtain ⟨r1, hr1⟩ : ∃ r, wrJ j sec m k s d' = r := ⟨_, rfl⟩
      rw [hr1] at hv hd hwl HE2
      have HD2 := Lib.hid hd
      have HK2 := Lib.hid (HK.out.trans hk)
      have HKS2 : Hid (k + m + sumM (ls.drop (i + 1)) = 1 + sumM ls) := Lib.hid (by have := HKS.out; omega)
      have HW2 : Hid (r1.1.wait.length + sumM (ls.drop (i + 1)) ≤ 900000 + sumM ls) := Lib.hid (by have := HW.out; omega)
      clear hd hk hr1 HD HK c3 hwl HKS HW hwb
      rcases hv with ⟨hz, rfl⟩ | ⟨hz, b, rfl, hf⟩
      case inr =>
        rw [bindE_no hz] at HE2
        have HR2 : Hid (r1 = R) := Lib.hid (by rw [← HR.out, HE2.out, bindE_no hz])
        go_wp2_with fail
        go_ret
        exact ⟨⟨_, rfl, by rw [← HR2.out]; exact .inr ⟨hz, b, rfl, hf⟩⟩, by rw [← HR2.out]; exact HD2.out, HK2.out⟩
      rw [bindE_ok hz] at HE2
      clear hz
      go_wp2_with fail
      go_roundw
      case rel => exact ⟨i + 1, k + m, r1.1, by omega, by go_num, by go_num, HKS2.out, HE2.out, HW2.out, HD2.out, HK2.out⟩
      case measure => simp [intOf]; omega
    · have g1 : decide (i < N) = false := decide_eq_false hlt
      obtain rfl : i = N := by omega
      rw [List.drop_of_length_le (by rw [HN.out]; exact Nat.le_refl _)] at HKS HE HW
      have hk1 : k = 1 + sumM ls := by have := HKS.out; simpa [sumM] using this
      subst hk1
      have HE2 : Hid (wrAll j sec 1 ls d = (d', 0)) := Lib.hid HE.out
      have hwb : d'.wait.length ≤ 950000 := by have := HW.out; have := HM.out; omega
      rw [HE2.out, bindE_ok rfl] at HR
      have hkb : 1 + sumM ls ≤ j.half := by have := HM.out; omega
      have h0r := Nat.le_trans h0 HK.out.size
      have c3 := HD.out.j.c3
      have he2 : (j.epoch : Int) < 4611686018427387904 := by omega
      obtain ⟨k, hk⟩ : ∃ k, 1 + sumM ls = k := ⟨_, rfl⟩
      rw [hk] at HR hkb ⊢
      clear HKS HE HE2 HW HM hk hlt
      go_wp2_with fail
      rw [HSEC.out]
      refine (clean_any sec k HD.out (by omega) (by omega) h0r).mono ?_
      rintro e w3 ⟨⟨v, rfl, hv⟩, hd, hk⟩
      have hwl3 := clean_wait j sec k d'
      obtain ⟨r2, hr2⟩ : ∃ r, cleanJ j sec k d' = r := ⟨_, rfl⟩
      rw [hr2] at hv hd hwl3 HR
      have HD3 := Lib.hid hd
      have HK3 := Lib.hid (HK.out.trans hk)
      have h03 := Nat.le_trans h0r hk.size
      clear hd hk hr2 HD HK c3
      rcases hv with ⟨hc, rfl⟩ | ⟨hc, b, rfl, hf⟩
      case inr =>
        rw [bindE_no hc] at HR
        go_wp2_with fail
        go_ret
        exact ⟨⟨_, rfl, by rw [← HR.out]; exact .inr ⟨hc, b, rfl, hf⟩⟩, by rw [← HR.out]; exact HD3.out, HK3.out⟩
      rw [bindE_ok hc] at HR
      have c4 := HD3.out.j.c4
      clear hc
      have hPk : Hid (Calls Tryd.prog 34 #[.int .i64 ((j.epoch : Int) + 1), .int .i64 0, .string ⟨#[106, 111, 117, 114, 110, 97, 108]⟩] w3 _) := Lib.hid (Pack_ok ((j.epoch : Int) + 1) 0 magicL w3 (by decide) (decide_eq_true ⟨by omega, by omega, by omega, by omega⟩))
      go_wp2_with fail
      refine hPk.out.mono ?_
      rintro e w4 ⟨rfl, hq4⟩
      clear hPk
      have hh : packL ((j.epoch : Int) + 1) 0 magicL = headL (j.epoch + 1) := rfl
      rw [hh]
      have HHL := Lib.hid (headL_len (j.epoch + 1))
      obtain ⟨hd0, hhd⟩ : ∃ x, headL (j.epoch + 1) = x := ⟨_, rfl⟩
      rw [hhd] at HHL HR ⊢
      have HD4 := Lib.hid (HD3.out.q hq4)
      have HK4 := Lib.hid (HK3.out.trans (K.q hq4))
      have h04 := Nat.le_trans h03 hq4.size
      clear hh hhd hq4 HD3 HK3 c4
      go_upto_region 16 with (fail)
      have c3 := HD4.out.j.c3
      have k3 : ∀ m : QW w4, m.val.cell? ⟨bj, 3, none⟩ = some (.bool j.second) := fun m => m.cell c3
      have HUN := Lib.hid (fun w => unmarked_any hd0 w (by have := HHL.out; omega) (by have := HHL.out; omega))
      clear c3
      refine wp_region_q_tail 8 (by kernel_rfl) (by kernel_rfl) ?_
      simp only [List.take_succ_cons, List.take_zero, List.drop_succ_cons, List.drop_zero]
      (repeat (go_big_quiet_step ((go_at_call 59; exact calls_qs (HUN.out _)))))
      refine wpQuiet_nil ?_
      rintro wa ⟨ma, hma⟩
      have hqa : Q w4 wa := by rw [hma]; exact ma.le
      have HD5 := Lib.hid (HD4.out.q hqa)
      have HK5 := Lib.hid (HK4.out.trans (K.q hqa))
      have h05 := Nat.le_trans h04 hqa.size
      have HU := Lib.hid ((unmarkL_len (s := hd0) (by have := HHL.out; omega)).trans HHL.out)
      clear hma ma hqa k3 HUN HD4 HK4
      go_wp2_with fail
      rw [HSEC.out]
      refine (wr_any sec 0 1 (unmarkL hd0) HD5.out HU.out (by omega) (by omega) (by omega) h05).mono ?_
      rintro e w6 ⟨⟨v, rfl, hv⟩, hd, hk⟩
      have hwl6 := wr_wait j sec 1 0 (unmarkL hd0) r2.1
      obtain ⟨r3, hr3⟩ : ∃ r, wrJ j sec 1 0 (unmarkL hd0) r2.1 = r := ⟨_, rfl⟩
      rw [hr3] at hv hd hwl6 HR
      have HD6 := Lib.hid hd
      have HK6 := Lib.hid (HK5.out.trans hk)
      have h06 := Nat.le_trans h05 hk.size
      clear hd hk hr3 HD5 HK5
      rcases hv with ⟨hc, rfl⟩ | ⟨hc, b, rfl, hf⟩
      case inr =>
        rw [bindE_no hc] at HR
        go_wp2_with fail
        go_ret
        exact ⟨⟨_, rfl, by rw [← HR.out]; exact .inr ⟨hc, b, rfl, hf⟩⟩, by rw [← HR.out]; exact HD6.out, HK6.out⟩
      rw [bindE_ok hc] at HR
      have c0 := HD6.out.j.c0
      clear hc
      go_wp2_with fail
      refine (Flush_any HD6.out.d (by omega) h06).mono ?_
      rintro e w7 ⟨⟨v, rfl, hv⟩, hd, hk⟩
      have hwl7 : (flushR r3.1).1.wait.length ≤ r3.1.wait.length := flush_wait r3.1
      have hv : ErrIs w7 v (flushR r3.1).2 0 := hv
      have hd : DAt w0 w7 bd bp gh (flushR r3.1).1 := hd
      obtain ⟨r4, hr4⟩ : ∃ r, flushR r3.1 = r := ⟨_, rfl⟩
      rw [hr4] at hv hd hwl7 HR
      have HD7 := Lib.hid (HD6.out.up hk hd)
      have HK7 := Lib.hid (HK6.out.trans hk)
      have h07 := Nat.le_trans h06 hk.size
      clear hd hk hr4 HD6 HK6 c0
      rcases hv with ⟨hc, rfl⟩ | ⟨hc, b, rfl, hf⟩
      case inr =>
        rw [bindE_no hc] at HR
        go_wp2_with fail
        go_ret
        exact ⟨⟨_, rfl, by rw [← HR.out]; exact .inr ⟨hc, b, rfl, hf⟩⟩, by rw [← HR.out]; exact HD7.out, HK7.out⟩
      rw [bindE_ok hc] at HR
      have c3 := HD7.out.j.c3
      clear hc
      go_wp2_with fail
      rw [HSEC.out]
      refine (wr_any sec 0 1 hd0 HD7.out HHL.out (by omega) (by omega) (by omega) h07).mono ?_
      rintro e w8 ⟨⟨v, rfl, hv⟩, hd, hk⟩
      have hwl8 := wr_wait j sec 1 0 hd0 r4.1
      obtain ⟨r5, hr5⟩ : ∃ r, wrJ j sec 1 0 hd0 r4.1 = r := ⟨_, rfl⟩
      rw [hr5] at hv hd hwl8 HR
      have HD8 := Lib.hid hd
      have HK8 := Lib.hid (HK7.out.trans hk)
      have h08 := Nat.le_trans h07 hk.size
      clear hd hk hr5 HD7 HK7 c3
      rcases hv with ⟨hc, rfl⟩ | ⟨hc, b, rfl, hf⟩
      case inr =>
        rw [bindE_no hc] at HR
        go_wp2_with fail
        go_ret
        exact ⟨⟨_, rfl, by rw [← HR.out]; exact .inr ⟨hc, b, rfl, hf⟩⟩, by rw [← HR.out]; exact HD8.out, HK8.out⟩
      rw [bindE_ok hc] at HR
      have c0 := HD8.out.j.c0
      clear hc
      go_wp2_with fail
      refine (Flush_any HD8.out.d (by omega) h08).mono ?_
      rintro e w9 ⟨⟨v, rfl, hv⟩, hd, hk⟩
      have HD9 := Lib.hid (HD8.out.up hk hd)
      have HK9 := Lib.hid (HK8.out.trans hk)
      clear hd hk c0
      go_wp2_with fail
      go_ret
      exact ⟨⟨v, rfl, by rw [← HR.out]; exact hv⟩, by rw [← HR.out]; exact HD9.out, HK9.out⟩
end Go.Proofs.YtjbdjkpbkjkdpaaDoor
/- A journal's Reset. -/
set_option linter.unusedVariables false
set_option linter.unusedSimpArgs false
namespace Go.Proofs.YtjbdjkpbkjkdpaaDoor
open Go Go.RowKit
/-- Records packed, one behind the other. -/
def packsL (e : Nat) : Nat → List (List UInt8) → List (List UInt8)
  | _, [] => []
  | k, p :: r => packL (e : Int) ((k + 1 : Nat) : Int) p :: packsL e (k + 1) r
theorem packsL_snoc (e : Nat) (a : List (List UInt8)) (p : List UInt8) : ∀ k, packsL e k (a ++ [p]) = packsL e k a ++ [packL (e : Int) ((k + a.length + 1 : Nat) : Int) p] := by
  induction a with
  | nil => intro k; rfl
  | cons q r ih =>
    intro k
    rw [List.cons_append, packsL, packsL, ih, List.cons_append, List.length_cons, show k + 1 + r.length + 1 = k + (r.length + 1) + 1 by omega]
theorem packsL_len (e : Nat) (a : List (List UInt8)) : ∀ k, (packsL e k a).length = a.length := by
  induction a with
  | nil => intro k; rfl
  | cons q r ih => intro k; rw [packsL, List.length_cons, List.length_cons, ih]
theorem packL_len64 (e n : Int) (p : List UInt8) : (packL e n p).length = 64 * wantN p := by
  have h := packL_length e n p
  unfold wantN
  unfold endsN at h
  omega
def wantS (ls : List (List UInt8)) : Nat := (ls.map wantN).sum
theorem wantS_snoc (a : List (List UInt8)) (p : List UInt8) : wantS (a ++ [p]) = wantS a + wantN p := by simp [wantS]
theorem wantS_cons (p : List UInt8) (a : List (List UInt8)) : wantS (p :: a) = wantN p + wantS a := by simp [wantS]
theorem wantS_take (ls : List (List UInt8)) (i : Nat) : wantS (ls.take i) ≤ wantS ls := by
  induction ls generalizing i with
  | nil => simp [wantS]
  | cons p r ih => cases i with
    | zero => simp [wantS]
    | succ i => rw [List.take_succ_cons, wantS_cons, wantS_cons]; have := ih i; omega
theorem wantS_packs (e : Nat) (a : List (List UInt8)) : ∀ k, sumM (packsL e k a) = wantS a := by
  induction a with
  | nil => intro k; rfl
  | cons q r ih => intro k; rw [packsL, sumM_cons, ih, wantS_cons, packL_len64]; omega
theorem packsL_mem (e : Nat) (a : List (List UInt8)) (hb : ∀ p ∈ a, p.length ≤ 60000) : ∀ k, ∀ s ∈ packsL e k a, s.length = 64 * (s.length / 64) ∧ s.length / 64 ≤ 10000 := by
  induction a with
  | nil => intro k s hs; cases hs
  | cons q r ih =>
    intro k s hs
    rw [packsL] at hs
    rcases List.mem_cons.1 hs with rfl | hs
    · have := hb q List.mem_cons_self
      rw [packL_len64]; unfold wantN; omega
    · exact ih (fun p hp => hb p (List.mem_cons_of_mem _ hp)) _ s hs
def resetJ (j : JrnS) (ls : List (List UInt8)) : JrnS := { j with second := !j.second, epoch := j.epoch + 1, many := ls.length, next := 1 + wantS ls }
def resetD (j : JrnS) (ls : List (List UInt8)) (d : DskS) : DskS × Int := anewJ j (packsL (j.epoch + 1) 0 ls) d
set_option maxRecDepth 100000 in
set_option maxHeartbeats 4000000 in
theorem Reset_ok {w0 w : World} {bj bd bp gh : Nat} {j : JrnS} {d : DskS} (v : Value) (ls : List (List UInt8)) (h : JD w0 w bj bd bp gh j d) (hs : StrS w v ls) (hl : ∀ p ∈ ls, p.length ≤ 60000) (ho : j.Ok) (hcl : j.closed = false) (he : j.epoch < 4611686018427387904) (hm : wantS ls + 1 ≤ j.half) (hll : ls.length ≤ 100000) (hw : d.wait.length ≤ 900000) (h0 : w0.heap.size ≤ w.heap.size) (hz : (resetD j ls d).2 = 0) :
    Calls Tryd.prog 16 #[.pointer (some ⟨bj, 0, none⟩), v] w fun e w' => e = .returned .nilIface ∧ JD w0 w' bj bd bp gh (resetJ j ls) (resetD j ls d).1 ∧ K w0 [bj] w w' := by
  have HJ := Lib.hid h
  have HS := Lib.hid hs
  have HL := Lib.hid hl
  have ho1 := ho.place
  have hlz : (ls.length : Int) ≤ 100000 := by omega
  have HZ := Lib.hid hz
  have HO := Lib.hid ho
  obtain ⟨A, cap, rfl, hst, hty⟩ := hs
  obtain ⟨N, hN⟩ : ∃ N, ls.length = N := ⟨_, rfl⟩
  have HN := Lib.hid hN
  rw [hN] at hll hlz HS ⊢
  have c7 := h.j.c7
  have c4 := h.j.c4
  rw [hcl] at c7
  have HCL := Lib.hid hcl
  have HM := Lib.hid hm
  have g0 : decide (4611686018427387904 ≤ (j.epoch : Int)) = false := by simp; omega
  have he2 : (j.epoch : Int) < 4611686018427387904 := by omega
  have HOS0 := Lib.hid (OwnS.nil 9 w w)
  obtain ⟨D, hD⟩ : ∃ D, (resetD j ls d).1 = D := ⟨_, rfl⟩
  have HDD := Lib.hid hD
  rw [hD]
  clear h hl ho hst hty hN hm hz hcl he hD
  go_enter Tryd.func16, Tryd.ntmps16
  go_wp2_with fail
  go_loopw [5, 6, 25] (fun lv zv iv wr => ∃ (i z : Nat), i ≤ N ∧ z ≤ 8192 ∧ zv = .int .i64 (z : Int) ∧ iv = .int .i64 (i : Int) ∧ Hid (z = wantS (ls.take i)) ∧ Hid (OwnS 9 w wr lv ((packsL (j.epoch + 1) 0 (ls.take i)).map strV)) ∧ Hid (JD w0 wr bj bd bp gh j d) ∧ Hid (Q w wr)) (fun _ _ iv _ => N - (intOf iv).toNat)
  case atStart => exact ⟨0, 0, by omega, by omega, rfl, rfl, rfl, HOS0.out, HJ.out, Q.refl _⟩
  case round =>
    obtain ⟨i, z, hi, hz, rfl, rfl, HZZ, HOS, HD, HQ⟩ := hrel
    by_cases hlt : i < N
    · have g1 : decide (i < N) = true := decide_eq_true hlt
      obtain ⟨A2, cap2, e2, hst, hty⟩ := HS.out.q HQ.out
      have hst2 : StrsAt wr A N ls := by rw [← HN.out]; injection e2 with e2 _ _; rw [e2]; exact hst
      obtain ⟨ad, rfl, hc⟩ := hst2.at hlt
      obtain ⟨p, hp⟩ : ∃ s, gL ls i = s := ⟨_, rfl⟩
      have hln := HN.out
      have hpe : ls[i]'(by omega) = p := by rw [← hp]; simp [gL, List.getD, show i < ls.length by omega]
      have htk : ls.take (i + 1) = ls.take i ++ [p] := by rw [← hpe, List.take_succ_eq_append_getElem (by omega)]
      have hpm : p ∈ ls := by rw [← hpe]; exact List.getElem_mem _
      have hpl := HL.out p hpm
      have hw2 := wantS_take ls (i + 1)
      have HM2 := HM.out
      rw [hp] at hc
      have hz2 : z + wantN p = wantS (ls.take (i + 1)) := by rw [htk, wantS_snoc, HZZ.out]
      have hz3 : z + wantN p ≤ 8192 := by omega
      have hll2 : ((packsL (j.epoch + 1) 0 (ls.take i)).map strV).length ≤ 1000000 := by rw [List.length_map, packsL_len, List.length_take]; omega
      have hps : packsL (j.epoch + 1) 0 (ls.take (i + 1)) = packsL (j.epoch + 1) 0 (ls.take i) ++ [packL ((j.epoch : Int) + 1) ((i : Int) + 1) p] := by
        rw [htk, packsL_snoc, List.length_take, show min i ls.length = i by omega, Nat.zero_add]; rfl
      have HPS := Lib.hid hps
      have HZ2 := Lib.hid hz2
      have HLL := Lib.hid hll2
      have hlen := packL_len64 ((j.epoch : Int) + 1) ((i : Int) + 1) p
      have hib : (i : Int) ≤ 100000 := by omega
      have HPK := Lib.hid (Pack_ok ((j.epoch : Int) + 1) ((i : Int) + 1) p wr hpl (decide_eq_true ⟨by omega, by omega, by omega, by omega⟩))
      obtain ⟨s, hs⟩ : ∃ s, packL ((j.epoch : Int) + 1) ((i : Int) + 1) p = s := ⟨_, rfl⟩
      rw [hs] at HPK HPS hlen
      have hdv : (s.length : Int) / 64 = (wantN p : Int) := by omega
      have hz4 : (z : Int) + (wantN p : Int) ≤ 8192 := by omega
      have c4 := HD.out.j.c4
      clear hst hty hst2 e2 hln hpe htk hpm hpl hw2 HM2 hp hz2 hz3 hll2 hps hlen hs HZZ
      go_wp2_with fail
      refine HPK.out.mono ?_
      rintro e w1 ⟨rfl, hq⟩
      have HD1 := Lib.hid (HD.out.q hq)
      have HQ1 := Lib.hid (HQ.out.trans hq)
      have HO1 := Lib.hid (HOS.out.q hq)
      clear hq HD HQ HOS HPK c4
      go_upto_region 14 with (at_builtin; refine wpList_append_s rfl (.tmp 45) (.tmp 47) rfl w w1 _ _ s (by rfl) HO1.out (by rfl) (by exact HQ1.out.size) HLL.out ?_; intro v5 w5 ho5 hg5)
      have HO5 : Hid (OwnS 9 w w5 v5 ((packsL (j.epoch + 1) 0 (ls.take (i + 1))).map strV)) := Lib.hid (by rw [HPS.out, List.map_append]; exact ho5)
      have HD5 := Lib.hid (HD1.out.gbo HO1.out hg5)
      have HQ5 := Lib.hid (gb_q_own hg5 HQ1.out (fun k hk => HO1.out.block hk))
      clear ho5 hg5 HD1 HQ1 HO1
      go_wp2_with fail
      go_roundw
      case rel => exact ⟨i + 1, z + wantN p, by omega, by omega, by go_num, by go_num, HZ2.out, HO5.out, HD5.out, HQ5.out⟩
      case measure => simp [intOf]; omega
    · have g1 : decide (i < N) = false := decide_eq_false hlt
      obtain rfl : i = N := by omega
      rw [List.take_of_length_le (by rw [HN.out]; exact Nat.le_refl _)] at HZZ HOS
      have hzz : z = wantS ls := HZZ.out
      have HZF := Lib.hid hzz
      have g2 : decide (j.half - 1 < z) = false := by have := HM.out; simp; omega
      have HHF := Lib.hid (Half_any HD.out.j HO.out)
      have h0r := Nat.le_trans h0 HQ.out.size
      obtain ⟨h1, hh1⟩ : ∃ h, j.half - 1 = h := ⟨_, rfl⟩
      rw [hh1] at HHF g2
      have HANW := Lib.hid (fun v (hs : StrS wr v (packsL (j.epoch + 1) 0 ls)) => anew_any v _ HD.out hs (packsL_mem _ _ HL.out 0) HO.out (by omega) (by rw [wantS_packs]; exact HM.out) (by rw [packsL_len, HN.out]; exact hll) hw h0r)
      have HLV : Hid (StrS wr u5 (packsL (j.epoch + 1) 0 ls)) := Lib.hid HOS.out.toS
      obtain ⟨A5, c5, e5, _, _⟩ := HLV.out
      rw [packsL_len, HN.out] at e5
      subst e5
      clear hzz hh1 HZZ hlt HOS
      go_wp2_with fail
      refine HHF.out.mono ?_
      rintro e w1 ⟨rfl, rfl⟩
      go_wp2_with fail
      refine (HANW.out _ HLV.out).mono ?_
      rintro e w2 ⟨⟨v, rfl, hv⟩, hd, hk⟩
      have hv : ErrIs w2 v (resetD j ls d).2 0 := hv
      have hd : JD w0 w2 bj bd bp gh j (resetD j ls d).1 := hd
      rcases hv with ⟨_, rfl⟩ | ⟨hzz, _⟩
      case inr => exact absurd HZ.out hzz
      rw [HDD.out] at hd
      have HD2 := Lib.hid hd
      have HK2 := Lib.hid (((K.q (w0 := w0) (S := []) HQ.out).trans hk).mono (S' := [bj]) (by simp))
      clear hd hk HANW HLV HD HQ HJ
      have c3 := HD2.out.j.c3
      have f3 := HD2.out.j.fz 3
      obtain ⟨hs1, hs2⟩ := HD2.out.set 3 (.bool (!j.second)) (HD2.out.j.set3 (!j.second))
      go_upto_region 22 with (fail)
      obtain ⟨W3, hW3⟩ : ∃ W, w2.setCell ⟨bj, 3, none⟩ (.bool (!j.second)) = W := ⟨_, rfl⟩
      rw [hW3] at hs1 hs2 ⊢
      have HD3 := Lib.hid hs1
      have HK3 := Lib.hid (HK2.out.trans hs2)
      clear hs1 hs2 hW3 c3 f3 HD2 HK2
      have c4 := HD3.out.j.c4
      have f4 := HD3.out.j.fz 4
      simp only at c4
      obtain ⟨hs1, hs2⟩ := HD3.out.set 4 (.int .i64 ((j.epoch + 1 : Nat) : Int)) (HD3.out.j.set4 (j.epoch + 1))
      rw [show ((j.epoch + 1 : Nat) : Int) = (j.epoch : Int) + 1 by omega] at hs1 hs2
      go_upto_region 23 with (fail)
      obtain ⟨W4, hW4⟩ : ∃ W, W3.setCell ⟨bj, 4, none⟩ (.int .i64 ((j.epoch : Int) + 1)) = W := ⟨_, rfl⟩
      rw [hW4] at hs1 hs2 ⊢
      have HD4 := Lib.hid hs1
      have HK4 := Lib.hid (HK3.out.trans hs2)
      clear hs1 hs2 hW4 c4 f4 HD3 HK3
      obtain ⟨hs1, hs2⟩ := HD4.out.set 5 (.int .i64 (i : Int)) (HD4.out.j.set5 i)
      obtain ⟨hs3, hs4⟩ := hs1.set 6 (.int .i64 ((1 + z : Nat) : Int)) (hs1.j.set6 (1 + z))
      rw [show ((1 + z : Nat) : Int) = 1 + (z : Int) by omega] at hs3 hs4
      have k5 := HD4.out.j.c5
      have k6 := HD4.out.j.c6
      simp only at k5 k6
      have f5 := HD4.out.j.fz 5
      have f6 := hs1.j.fz 6
      have HD5 := Lib.hid hs3
      have HK5 := Lib.hid (HK4.out.trans (hs2.trans hs4))
      clear hs1 hs2 hs3 hs4
      go_wp2_with fail
      go_ret
      have he : resetJ j ls = { j with second := !j.second, epoch := j.epoch + 1, many := i, next := 1 + z } := by unfold resetJ; rw [HN.out, ← HZF.out]
      exact ⟨rfl, by rw [he]; exact HD5.out, HK5.out⟩
end Go.Proofs.YtjbdjkpbkjkdpaaDoor
/- Plain laws: what a live disk shows behind writes. -/
set_option linter.unusedVariables false
set_option linter.unusedSimpArgs false
namespace Go.Proofs.YtjbdjkpbkjkdpaaDoor
open Go Go.RowKit
/-- Power is there, and no fuse. -/
structure Live (d : DskS) : Prop where
  gone : d.gone = false
  dead : d.dead = false
  fuse : d.fuse < 0
  ok : d.Ok
theorem Live.ready {d : DskS} (h : Live d) {k : Nat} (hk : k < d.n) : readyC d (k : Int) = 0 := by
  unfold readyC
  rw [h.gone, h.dead, if_neg (by decide), if_neg (by decide), if_neg (by omega)]
theorem Live.act {d : DskS} (h : Live d) : actD d = d := by
  have := h.fuse
  unfold actD
  rw [if_neg (by omega), if_neg (by omega)]
theorem Live.fuse0 {d : DskS} (h : Live d) : ¬ d.fuse = 0 := by have := h.fuse; omega
theorem writeD_live {d : DskS} (h : Live d) {k : Nat} (hk : k < d.n) {s : List UInt8} (hs : s.length = 64) : writeD d (k : Int) s = { d with wait := d.wait ++ [(k, s)] } := by
  unfold writeD
  rw [h.ready hk, if_neg (by omega), if_neg h.fuse0, h.act]
  rfl
theorem writeC_live {d : DskS} (h : Live d) {k : Nat} (hk : k < d.n) {s : List UInt8} (hs : s.length = 64) : writeC d (k : Int) s = 0 := by
  unfold writeC
  rw [h.ready hk, if_neg (by omega), if_neg (by omega), if_neg h.fuse0]
theorem live_write {d : DskS} (h : Live d) {k : Nat} (hk : k < d.n) {s : List UInt8} (hs : s.length = 64) :
    Live (writeD d (k : Int) s) ∧ (writeD d (k : Int) s).n = d.n ∧ ∀ i, readL (writeD d (k : Int) s) i = if i = k then s else readL d i := by
  rw [writeD_live h hk hs]
  refine ⟨⟨h.gone, h.dead, h.fuse, ⟨h.ok.len, h.ok.most, h.ok.fuse, fun p hp => ?_⟩⟩, rfl, fun i => ?_⟩
  · rcases List.mem_append.1 hp with hp | hp
    · exact h.ok.wait p hp
    · rw [List.mem_singleton.1 hp]; exact ⟨hk, hs⟩
  · unfold readL
    simp only [List.reverse_append, List.reverse_cons, List.reverse_nil, List.nil_append, List.singleton_append, List.find?_cons]
    by_cases e : i = k
    · rw [if_pos e, show (k == i) = true by simp [e]]
    · rw [if_neg e, show (k == i) = false by simp; omega]
theorem sub_put {im : List UInt8} {k i n : Nat} {s : List UInt8} (hs : s.length = 64) (hk : k < n) (hi : i < n) (hl : im.length = 64 * n) :
    sub (putS im k s) (i * 64) (i * 64 + 64) = if i = k then s else sub im (i * 64) (i * 64 + 64) := by
  unfold sub putS
  refine List.ext_getElem? fun q => ?_
  by_cases e : i = k
  · subst e
    rw [if_pos rfl]
    simp only [List.getElem?_drop, List.getElem?_take]
    by_cases hq : q < 64
    · rw [if_pos (by omega), List.append_assoc, List.getElem?_append_right (by rw [List.length_take]; omega), List.length_take, show i * 64 + q - min (i * 64) im.length = q by omega, List.getElem?_append_left (by omega)]
    · rw [if_neg (by omega), List.getElem?_eq_none (by omega)]
  · rw [if_neg e]
    simp only [List.getElem?_drop, List.getElem?_take]
    by_cases hq : q < 64
    · rw [if_pos (by omega), if_pos (by omega)]
      rcases Nat.lt_or_ge i k with h | h
      · rw [List.append_assoc, List.getElem?_append_left (by rw [List.length_take]; omega), List.getElem?_take, if_pos (by omega)]
      · rw [List.getElem?_append_right (by rw [List.length_append, List.length_take]; omega), List.length_append, List.length_take, List.getElem?_drop, hs]
        congr 1; omega
    · rw [if_neg (by omega), if_neg (by omega)]
theorem sub_cur (n : Nat) {i : Nat} (hi : i < n) (l : List (Nat × List UInt8)) : ∀ (im : List UInt8), im.length = 64 * n → (∀ p ∈ l, p.1 < n ∧ p.2.length = 64) →
    sub (curL im l) (i * 64) (i * 64 + 64) = match l.reverse.find? (fun p => p.1 == i) with | some p => p.2 | none => sub im (i * 64) (i * 64 + 64) := by
  induction l with
  | nil => intro im _ _; rfl
  | cons p r ih =>
    intro im hl hp
    obtain ⟨p1, p2⟩ := hp p List.mem_cons_self
    have hl2 : (putS im p.1 p.2).length = 64 * n := by rw [putS_len (by omega)]; exact hl
    have h := ih (putS im p.1 p.2) hl2 (fun q hq => hp q (List.mem_cons_of_mem _ hq))
    have e : curL im (p :: r) = curL (putS im p.1 p.2) r := rfl
    rw [e, h, List.reverse_cons, List.find?_append]
    cases hf : r.reverse.find? (fun p => p.1 == i) with
    | some q => rfl
    | none =>
      rw [Option.none_or]
      simp only [List.find?_cons, List.find?_nil]
      rw [sub_put p2 p1 hi hl]
      by_cases e : i = p.1
      · rw [if_pos e, show (p.1 == i) = true by simp [e]]
      · rw [if_neg e, show (p.1 == i) = false by simp; omega]
theorem live_flush {d : DskS} (h : Live d) (h1 : 0 < d.n) : (flushR d).2 = 0 ∧ Live (flushR d).1 ∧ (flushR d).1.n = d.n ∧ (flushR d).1.wait = [] ∧ ∀ i, i < d.n → readL (flushR d).1 i = readL d i := by
  have hr : readyC d 0 = 0 := h.ready h1
  have hl := curL_len d.wait d.has h.ok.len h.ok.wait
  have hn : DskS.n { d with has := d.cur, wait := [] } = d.n := by unfold DskS.n DskS.cur; simp only; rw [hl]
  have e : flushR d = ({ d with has := d.cur, wait := [] }, 0) := by
    have c : flushC d = 0 := by unfold flushC; rw [hr]; simp [h.fuse0]
    have f : flushD d = { d with has := d.cur, wait := [] } := by unfold flushD; rw [hr]; simp [h.fuse0, h.act]
    unfold flushR
    rw [c, f]
  rw [e]
  refine ⟨rfl, ⟨h.gone, h.dead, h.fuse, ⟨?_, ?_, h.ok.fuse, fun p hp => by cases hp⟩⟩, hn, rfl, fun i hi => ?_⟩
  · rw [hn]; exact hl.trans h.ok.len
  · rw [hn]; exact h.ok.most
  · exact sub_cur d.n hi d.wait d.has h.ok.len h.ok.wait
theorem put_at {A B C s : List UInt8} {k : Nat} (ha : A.length = 64 * k) (hb : B.length = s.length) : putS (A ++ B ++ C) k s = A ++ s ++ C := by
  have e1 : List.take (k * 64) (A ++ B ++ C) = A := by rw [show k * 64 = A.length by omega, List.append_assoc, List.take_left]
  have e2 : List.drop (k * 64 + s.length) (A ++ B ++ C) = C := by rw [show k * 64 + s.length = (A ++ B).length by rw [List.length_append]; omega, List.drop_left]
  unfold putS
  rw [e1, e2]
theorem put_half (F : Nat → List UInt8) (hf : ∀ i, (F i).length = 64 ∨ True) (s : List UInt8) (k : Nat) (hs : s.length = 64) : ∀ n, (∀ i, i < n → (F i).length = 64) → k < n →
    (List.range n).flatMap (fun i => if i = k then s else F i) = putS ((List.range n).flatMap F) k s := by
  have hlen : ∀ n, (∀ i, i < n → (F i).length = 64) → ((List.range n).flatMap F).length = 64 * n := by
    intro n
    induction n with
    | zero => intro _; rfl
    | succ n ih => intro h; rw [List.range_succ, List.flatMap_append, List.length_append, ih (fun i hi => h i (by omega))]; simp [h n (by omega)]; omega
  intro n
  induction n with
  | zero => intro _ h; omega
  | succ n ih =>
    intro h hk
    have hL := hlen n (fun i hi => h i (by omega))
    rw [List.range_succ, List.flatMap_append, List.flatMap_append]
    have e1 : ∀ G : Nat → List UInt8, List.flatMap G [n] = G n := fun G => by simp
    rw [e1, e1]
    rcases Nat.lt_or_ge k n with hkn | hkn
    · rw [ih (fun i hi => h i (by omega)) hkn, if_neg (by omega)]
      unfold putS
      rw [List.take_append_of_le_length (by omega), List.drop_append_of_le_length (by omega), List.append_assoc]
    · obtain rfl : k = n := by omega
      rw [if_pos rfl]
      have e2 : (List.range k).flatMap (fun i => if i = k then s else F i) = (List.range k).flatMap F := by
        have : ∀ i ∈ List.range k, (if i = k then s else F i) = F i := fun i hi => if_neg (by rw [List.mem_range] at hi; omega)
        simp only [List.flatMap_def]
        rw [List.map_congr_left this]
      rw [e2]
      have := put_at (A := (List.range k).flatMap F) (B := F k) (C := []) (s := s) (k := k) hL (by rw [h k (by omega), hs])
      simpa using this.symm
theorem half_congr {j : JrnS} {sec : Bool} {d d' : DskS} (n : Nat) (h : ∀ i, i < n → readL d' (atJ j sec i) = readL d (atJ j sec i)) : halfL j sec d' n = halfL j sec d n := by
  unfold halfL
  simp only [List.flatMap_def]
  rw [List.map_congr_left (fun i hi => h i (List.mem_range.1 hi))]
/-- Behind a write of one sector. -/
theorem half_write {j : JrnS} {sec : Bool} {d : DskS} (h : Live d) (hp : j.first + 2 * j.half ≤ d.n) {k : Nat} (hk : k < j.half) {s : List UInt8} (hs : s.length = 64) {A B C : List UInt8} (hh : halfL j sec d j.half = A ++ B ++ C) (ha : A.length = 64 * k) (hb : B.length = 64) :
    halfL j sec (writeD d (atJ j sec k : Int) s) j.half = A ++ s ++ C := by
  have hat : ∀ i, i < j.half → atJ j sec i < d.n := by intro i hi; unfold atJ; split <;> omega
  have h1 := (live_write h (hat k hk) hs).2.2
  rw [← put_at ha (hb.trans hs.symm), ← hh]
  unfold halfL
  rw [← put_half (fun i => readL d (atJ j sec i)) (fun _ => .inr trivial) s k hs j.half (fun i hi => readL_len h.ok (hat i hi)) hk]
  simp only [List.flatMap_def]
  congr 1
  refine List.map_congr_left fun i hi => ?_
  rw [h1]
  have e : (atJ j sec i = atJ j sec k) ↔ i = k := by unfold atJ; omega
  simp only [e]
end Go.Proofs.YtjbdjkpbkjkdpaaDoor
