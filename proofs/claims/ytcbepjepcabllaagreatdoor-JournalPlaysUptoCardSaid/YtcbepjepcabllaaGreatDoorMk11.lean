/- Texts of this proof, laid into one: JqH, JsA, JsB, JsC, JoA, JoB. -/
import Derived.Test.YtcbepjepcabllaaGreatDoorMk10
/- JournalCrash, walked. -/
set_option linter.unusedVariables false
set_option linter.unusedSimpArgs false
namespace Go.Proofs.YtcbepjepcabllaaGreatDoor
open Go Go.RowKit
theorem append_strs (w0 w : World) (v : Value) (us : List Value) (ls : List (List UInt8)) (A : Option Addr) (c : Nat) (ty : TypeId) (hown : OwnS 9 w0 w v us) (hp : StrsAt w A ls.length ls) (hb : (us.length + ls.length) * 16 ≤ 140737488355328) (hq : w0.heap.size ≤ w.heap.size) :
    ∃ v' w', (Builtin.append_ #[31, 31] ty #[v, .slice A ls.length c]).run Tryz.prog w = .ok v' w' ∧ OwnS 9 w0 w' v' (us ++ ls.map strV) ∧ w.grownBy w' v.ownBlock := by
  obtain ⟨i, hi, hz, hsz, hby⟩ := info_parts oneStr'.info
  cases A with
  | some ad =>
    have hnews : ∀ j u, (ls.map strV)[j]? = some u → w.cell? (ad.add j) = some u := by
      intro j u hu
      have hj : j < ls.length := by have := (List.getElem?_eq_some_iff.1 hu).1; rwa [List.length_map] at this
      obtain ⟨ad2, e, hc⟩ := hp.2 (by omega)
      cases e
      rw [hc j hj, ← hu, List.getElem?_map, List.getElem?_eq_getElem hj]
      rfl
    obtain ⟨v', w', hr, h2, h3, _⟩ := run_append_own (P := Tryz.prog) w w0.heap.size 31 ty 9 i _ 1 16 oneStr'.under hi hz hsz hby oneStr'.zsize (by decide) v us.length us hown ad ls.length c (ls.map strV) (by simp) hnews (by
      intro u hu
      obtain ⟨s, _, rfl⟩ := List.mem_map.1 hu
      rfl) (by unfold maxLen; omega) hb hq
    refine ⟨v', w', hr, ?_, h3⟩
    unfold OwnS
    rw [List.length_append, List.length_map]
    exact h2
  | none =>
    have h0 : ls = [] := by
      rcases Nat.eq_zero_or_pos ls.length with h | h
      · exact List.eq_nil_of_length_eq_zero h
      · obtain ⟨ad, e, _⟩ := hp.2 h; cases e
    subst h0
    have hu := oneStr'.under
    refine ⟨v, w, ?_, by rw [List.map_nil, List.append_nil]; exact hown, ⟨rfl, rfl, rfl, Nat.le_refl _, fun _ _ _ => rfl⟩⟩
    rcases hown.2 with ⟨rfl, h0⟩ | ⟨g, cap, cur, rfl, h1, h2, h3, _⟩
    · simp [Builtin.append_, run_underlying hu, sizeOf, typeInfo, hi, Builtin.lenOf, Builtin.firstCells]
    · simp [Builtin.append_, run_underlying hu, sizeOf, typeInfo, hi, Builtin.lenOf, h3, Builtin.firstCells, storeCells]
/-- append(l, x...). -/
theorem wpList_append_strs {ops : Array Oper} {rest : List Oper} {o : Oper} {a : Act} {R : Exit → Act → World → Prop} (hgd : o.guard = none) (s x : Operand)
    (ho : o.op = .call { callee := .builtin .append, args := #[s, x], argTypes := #[31, 31] })
    (w0 W : World) (v : Value) (us : List Value) (ls : List (List UInt8)) (A : Option Addr) (n c : Nat) (hn : ls.length = n) (hs : a.eval s = v) (hown : OwnS 9 w0 W v us) (hx : a.eval x = .slice A n c) (hp : StrsAt W A n ls) (hq : w0.heap.size ≤ W.heap.size) (hb : (us.length + n) * 16 ≤ 140737488355328)
    (h : ∀ v' w', OwnS 9 w0 w' v' (us ++ ls.map strV) → W.grownBy w' v.ownBlock → wpList Tryz.prog ops R rest (a.put o.dst v') w') : wpList Tryz.prog ops R (o :: rest) a W := by
  subst hn
  obtain ⟨v', w', hr, h2, h3⟩ := append_strs w0 W v us ls A c o.type hown hp hb hq
  refine wpList_plain hgd fun K hK => ?_
  unfold Oper.wp execOp
  simp only [ho, resolve, invoke, builtin, Sem.run_bind, Sem.run_pure, Result.andThen_ok, List.map_toArray, List.map_cons, List.map_nil, hs, hx, hr]
  exact hK _ _ (h v' w' h2 h3)
theorem WrapAt.k {w0 w w' : World} {b : Nat} {c : Int} (h : WrapAt w b c) (hk : K w0 [] w w') : WrapAt w' b c := by
  obtain ⟨b2, h1, h2⟩ := h
  exact ⟨b2, hk.heap (by simp) (by decide) h1, h2.k hk (by simp)⟩
end Go.Proofs.YtcbepjepcabllaaGreatDoor
/- The document's journal as a list: Wants, Left, Append, Reset, Copy. -/
set_option linter.unusedVariables false
set_option linter.unusedSimpArgs false
namespace Go.Proofs.YtcbepjepcabllaaGreatDoor
open Go Go.RowKit
def RJAt (w : World) (br : Nat) (H E : Int) (v : Value) : Prop := w.heap[br]? = some (.cells #[.int .i64 H, .int .i64 E, v] 44 (0, 0))
theorem RJAt.q {w w' : World} {br : Nat} {H E : Int} {v : Value} (h : RJAt w br H E v) (hq : Q w w') : RJAt w' br H E v := hq.block h
theorem RJAt.k {w0 w w' : World} {S : List Nat} {br : Nat} {H E : Int} {v : Value} (h : RJAt w br H E v) (hk : K w0 S w w') (hs : br ∉ S) : RJAt w' br H E v := hk.heap hs (by decide) h
theorem RJAt.c0 {w : World} {br : Nat} {H E : Int} {v : Value} (h : RJAt w br H E v) : w.cell? ⟨br, 0, none⟩ = some (.int .i64 H) := by rw [cell_of_row _ _ _ _ _ _ h]; rfl
theorem RJAt.c1 {w : World} {br : Nat} {H E : Int} {v : Value} (h : RJAt w br H E v) : w.cell? ⟨br, 1, none⟩ = some (.int .i64 E) := by rw [cell_of_row _ _ _ _ _ _ h]; rfl
theorem RJAt.c2 {w : World} {br : Nat} {H E : Int} {v : Value} (h : RJAt w br H E v) : w.cell? ⟨br, 2, none⟩ = some v := by rw [cell_of_row _ _ _ _ _ _ h]; rfl
theorem RJAt.fz {w : World} {br : Nat} {H E : Int} {v : Value} (h : RJAt w br H E v) (i : Nat) : w.frozen? ⟨br, i, none⟩ = false := frozen_of_row w br i _ _ h
theorem RJAt.s1 {w : World} {br : Nat} {H E : Int} {v : Value} (h : RJAt w br H E v) (x : Int) : RJAt (w.setCell ⟨br, 1, none⟩ (.int .i64 x)) br H x v := by unfold RJAt; rw [heap_setCell_any w br 1 _ _ _ _ h]; rfl
theorem RJAt.s2 {w : World} {br : Nat} {H E : Int} {v : Value} (h : RJAt w br H E v) (x : Value) : RJAt (w.setCell ⟨br, 2, none⟩ x) br H E x := by unfold RJAt; rw [heap_setCell_any w br 2 _ _ _ _ h]; rfl
set_option maxHeartbeats 400000 in
theorem Wants_any (p : List UInt8) (w : World) (hp : p.length ≤ 2000000) :
    Calls Tryz.prog 45 #[.string ⟨p.toArray⟩] w fun e w' => e = .returned (.int .i64 (wantN p : Int)) ∧ w = w' := by
  have HS : Hid (Calls Tryz.prog 70 #[.int .i64 (24 + (p.length : Int))] w fun e w' => e = .returned (.int .i64 (wantN p : Int)) ∧ w = w') := Lib.hid (by
    have := Sectors_any (24 + (p.length : Int)) w (by omega) (by omega)
    rwa [show (24 + (p.length : Int) + 63) / 64 = (wantN p : Int) by unfold wantN; omega] at this)
  have hpi : (p.length : Int) ≤ 2000000 := by omega
  go_enter Tryz.func45, Tryz.ntmps45
  go_wp2_with fail
  refine HS.out.mono ?_
  rintro e w1 ⟨rfl, rfl⟩
  go_wp2_with fail
  go_ret
  exact ⟨rfl, rfl⟩
theorem wantS_take_succ {ls : List (List UInt8)} {i : Nat} (h : i < ls.length) : wantS (ls.take (i + 1)) = wantS (ls.take i) + wantN (gL ls i) := by
  rw [take_one h, wantS_snoc]
theorem wantS_take_le (ls : List (List UInt8)) (i : Nat) : wantS (ls.take i) ≤ wantS ls := by
  have h : wantS ls = wantS (ls.take i) + wantS (ls.drop i) := by
    conv => lhs; rw [← List.take_append_drop i ls]
    unfold wantS
    rw [List.map_append, List.sum_append]
  omega
set_option maxRecDepth 100000 in
set_option maxHeartbeats 2000000 in
theorem RLeft_any {w : World} {br : Nat} {H : Nat} {E : Int} {v : Value} {ls : List (List UInt8)} (h : RJAt w br H E v) (hs : StrS w v ls) (hw : wantS ls ≤ H) (hH : H ≤ 100000) (hp : ∀ p ∈ ls, p.length ≤ 60000) :
    Calls Tryz.prog 14 #[.pointer (some ⟨br, 0, none⟩)] w fun e w' => e = .returned (.int .i64 ((H - wantS ls : Nat) : Int)) ∧ w = w' := by
  obtain ⟨A, cap, rfl, hst, _⟩ := hs
  obtain ⟨N, hN⟩ : ∃ N, ls.length = N := ⟨_, rfl⟩
  rw [hN] at hst h
  have HN := Lib.hid hN
  have HST := Lib.hid hst
  have HP := Lib.hid hp
  have HW := Lib.hid hw
  have c0 := h.c0
  have c2 := h.c2
  have hNb : N ≤ 100000 := by have := wantS_ge ls; omega
  have hNi : (N : Int) ≤ 100000 := by omega
  have hHi : (H : Int) ≤ 100000 := by omega
  clear h hst hp hN hw
  go_enter Tryz.func14, Tryz.ntmps14
  go_wp2_with fail
  go_loop [3, 4] (fun nv iv => ∃ (i x : Nat), i ≤ N ∧ iv = .int .i64 (i : Int) ∧ nv = .int .i64 (x : Int) ∧ x ≤ 100000 ∧ Hid (x + wantS (ls.take i) = H)) (fun _ iv => N - (intOf iv).toNat)
  case atStart => exact ⟨0, H, by omega, rfl, rfl, hH, rfl⟩
  case round =>
    obtain ⟨i, x, hi, rfl, rfl, hx, HX⟩ := hrel
    by_cases hlt : i < N
    · have g1 : decide (i < N) = true := decide_eq_true hlt
      obtain ⟨ad, rfl, hc⟩ := HST.out.at hlt
      have hil : i < ls.length := by rw [HN.out]; exact hlt
      have ht := wantS_take_succ hil
      have hle := wantS_take_le ls (i + 1)
      have hpl := HP.out _ (gL_mem hil)
      obtain ⟨p, hp⟩ : ∃ p, gL ls i = p := ⟨_, rfl⟩
      rw [hp] at ht hpl hc
      have hxw : wantN p ≤ x := by have := HX.out; have := HW.out; omega
      have HX2 : Hid (x - wantN p + wantS (ls.take (i + 1)) = H) := Lib.hid (by have := HX.out; omega)
      have HWN := Lib.hid (fun w => Wants_any p w (by omega))
      have hxi : (wantN p : Int) ≤ (x : Int) := by omega
      have hxi2 : (x : Int) ≤ 100000 := by omega
      clear ht hle hp hpl
      go_wp2_with fail
      refine (HWN.out _).mono ?_
      rintro e w1 ⟨rfl, rfl⟩
      go_wp2_with fail
      go_round
      case rel => exact ⟨i + 1, x - wantN p, by omega, by go_num, by rw [show ((x - wantN p : Nat) : Int) = (x : Int) - (wantN p : Int) by omega], by omega, HX2.out⟩
      case measure => simp [intOf]; omega
    · have g1 : decide (i < N) = false := decide_eq_false hlt
      have hx2 : H - wantS ls = x := by
        have := HX.out
        rw [List.take_of_length_le (by rw [HN.out]; omega)] at this
        omega
      have HX2 := Lib.hid hx2
      clear hx2
      go_wp2_with fail
      go_ret
      exact ⟨by rw [HX2.out]; rfl, rfl⟩
/-- What Append answers. -/
def appE (H : Nat) (ls : List (List UInt8)) (p : List UInt8) : Int := if 60000 < p.length then 1 else if H - wantS ls < wantN p then 12 else 0
def appL (H : Nat) (ls : List (List UInt8)) (p : List UInt8) : List (List UInt8) := if appE H ls p = 0 then ls ++ [p] else ls
set_option maxRecDepth 100000 in
set_option maxHeartbeats 4000000 in
theorem RAppend_any {w0 w : World} {br : Nat} {H : Nat} {E : Int} {v : Value} {ls : List (List UInt8)} (p : List UInt8) (h : RJAt w br H E v) (ho : OwnS 9 w0 w v (ls.map strV)) (hw : wantS ls ≤ H) (hH : H ≤ 100000) (hp : ∀ p ∈ ls, p.length ≤ 60000) (hpl : p.length ≤ 140737488355328) (hb : w0.heap.size ≤ br) (hq : Q w0 w) :
    Calls Tryz.prog 36 #[.pointer (some ⟨br, 0, none⟩), .string ⟨p.toArray⟩] w fun e w' => e = .returned (.int .i64 (appE H ls p)) ∧ (∃ v', RJAt w' br H E v' ∧ OwnS 9 w0 w' v' ((appL H ls p).map strV)) ∧ (∀ k, k < w.heap.size → k ≠ br → v.ownBlock ≠ some k → w'.heap[k]? = w.heap[k]?) ∧ Q w0 w' := by
  obtain ⟨L, hL⟩ : ∃ L, appL H ls p = L := ⟨_, rfl⟩
  obtain ⟨C, hC⟩ : ∃ L, appE H ls p = L := ⟨_, rfl⟩
  have hL2 : L = if C = 0 then ls ++ [p] else ls := by rw [← hL, ← hC]; rfl
  rw [hL, hC]
  have HA := Lib.hid h
  have HO := Lib.hid ho
  have HQ := Lib.hid hq
  have hpi : (p.length : Int) ≤ 140737488355328 := by omega
  by_cases hbig : 60000 < p.length
  · have g1 : decide ((60000 : Int) < (p.length : Int)) = true := decide_eq_true (by omega)
    have he : C = 1 := by rw [← hC]; unfold appE; rw [if_pos hbig]
    subst he
    rw [if_neg (by decide)] at hL2
    subst hL2
    clear h ho hbig hq hC hL
    go_enter Tryz.func36, Tryz.ntmps36
    go_wp2_with fail
    go_ret
    exact ⟨rfl, ⟨v, HA.out, HO.out⟩, fun _ _ _ _ => rfl, HQ.out⟩
  have g1 : decide ((60000 : Int) < (p.length : Int)) = false := decide_eq_false (by omega)
  have HWN := Lib.hid (Wants_any p w (by omega))
  have HLF := Lib.hid (RLeft_any h ho.toS hw hH hp)
  obtain ⟨x, hx⟩ : ∃ x, wantN p = x := ⟨_, rfl⟩
  obtain ⟨y, hy⟩ : ∃ y, H - wantS ls = y := ⟨_, rfl⟩
  rw [hx] at HWN
  rw [hy] at HLF
  have hll : ls.length ≤ 100000 := by have := wantS_ge ls; omega
  by_cases hf : y < x
  · have g2 : decide (y < x) = true := decide_eq_true hf
    have he : C = 12 := by rw [← hC]; unfold appE; rw [if_neg hbig, hx, hy, if_pos hf]
    subst he
    rw [if_neg (by decide)] at hL2
    subst hL2
    clear h ho hbig hq hf hx hy hC hL
    go_enter Tryz.func36, Tryz.ntmps36
    go_wp2_with fail
    refine HWN.out.mono ?_
    rintro e w1 ⟨rfl, rfl⟩
    go_wp2_with fail
    refine HLF.out.mono ?_
    rintro e w1 ⟨rfl, rfl⟩
    go_wp2_with fail
    go_ret
    exact ⟨rfl, ⟨v, HA.out, HO.out⟩, fun _ _ _ _ => rfl, HQ.out⟩
  have g2 : decide (y < x) = false := decide_eq_false hf
  have he : C = 0 := by rw [← hC]; unfold appE; rw [if_neg hbig, hx, hy, if_neg hf]
  subst he
  rw [if_pos rfl] at hL2
  subst hL2
  have c2 := h.c2
  have hlm : (ls.map strV).length ≤ 1000000 := by rw [List.length_map]; omega
  have HLM := Lib.hid hlm
  clear h ho hbig hq hf hx hy hlm hC hL
  go_enter Tryz.func36, Tryz.ntmps36
  go_wp2_with fail
  refine HWN.out.mono ?_
  rintro e w1 ⟨rfl, rfl⟩
  go_wp2_with fail
  refine HLF.out.mono ?_
  rintro e w1 ⟨rfl, rfl⟩
  go_upto_region 5 with (fail)
  iterate 22 go_step
  refine wpList_append_s rfl (.tmp 17) (.tmp 19) rfl w0 w _ _ p (by rfl) HO.out (by rfl) (by exact HQ.out.size) HLM.out ?_
  intro v5 w5 ho5 hg5
  have hne : ∀ k, v.ownBlock = some k → br ≠ k := fun k hk e => by
    obtain ⟨_, ht⟩ := OwnS.type HO.out hk
    subst e
    rw [elemT_of HA.out] at ht; revert ht; decide
  have hA5 : RJAt w5 br H E v := by
    unfold RJAt
    rw [hg5.block br (lt_of_heap HA.out) (fun e => hne br e.symm rfl)]; exact HA.out
  have hQ5 := gb_q_own hg5 HQ.out (fun k hk => HO.out.block hk)
  have hsz5 : w.heap.size ≤ w5.heap.size := hg5.size
  have cc := hA5.c2
  have ff := hA5.fz 2
  have hA6 := hA5.s2 v5
  have ho6 : OwnS 9 w0 (w5.setCell ⟨br, 2, none⟩ v5) v5 ((ls ++ [p]).map strV) := by
    rw [List.map_append]
    refine World.ownsRow.kept ho5 (gb_setCell w5 br 2 v5) (.inr fun e => ?_)
    obtain ⟨_, ht⟩ := OwnS.type ho5 e
    rw [elemT_of hA5] at ht; revert ht; decide
  have hq6 := hQ5.setNew (p := ⟨br, 2, none⟩) hb v5
  have hkeep : ∀ k, k < w.heap.size → k ≠ br → v.ownBlock ≠ some k → (w5.setCell ⟨br, 2, none⟩ v5).heap[k]? = w.heap[k]? := fun k h1 h2 h3 => by
    rw [(gb_setCell w5 br 2 v5).block k (by omega) (fun e => by injection e with e; exact h2 e), hg5.block k h1 (fun e => h3 e.symm)]
  have H6 := Lib.hid hA6
  have HO6 := Lib.hid ho6
  have HQ6 := Lib.hid hq6
  have HK6 := Lib.hid hkeep
  obtain ⟨A5, c5, rfl, _⟩ := (OwnS.toS (ls := ls ++ [p]) (by rw [List.map_append]; exact ho5) : StrS w5 v5 (ls ++ [p]))
  clear hne hA5 hQ5 hA6 ho6 hq6 hkeep ho5 hg5 hsz5 c2
  generalize (ls ++ [p]).length = m at H6 HO6 HQ6 HK6 ⊢
  go_wp2_with fail
  go_ret
  exact ⟨rfl, ⟨_, H6.out, HO6.out⟩, HK6.out, HQ6.out⟩
end Go.Proofs.YtcbepjepcabllaaGreatDoor
/- The document's journal as a list: Reset, Copy. The disk's Pending. -/
set_option linter.unusedVariables false
set_option linter.unusedSimpArgs false
namespace Go.Proofs.YtcbepjepcabllaaGreatDoor
open Go Go.RowKit
def bigL (ls : List (List UInt8)) : Bool := ls.any fun p => decide (60000 < p.length)
/-- What Reset answers. -/
def resE (H E : Nat) (ls : List (List UInt8)) : Int := if bigL ls then 1 else if 4611686018427387904 ≤ E then 1 else if H < wantS ls then 12 else 0
theorem bigL_snoc (ls : List (List UInt8)) (p : List UInt8) : bigL (ls ++ [p]) = (bigL ls || decide (60000 < p.length)) := by unfold bigL; simp
theorem bigL_of {ls : List (List UInt8)} {i : Nat} (h : i < ls.length) (hb : 60000 < (gL ls i).length) : bigL ls = true := by
  unfold bigL; rw [List.any_eq_true]; exact ⟨_, gL_mem h, decide_eq_true hb⟩
theorem bigL_false {ls : List (List UInt8)} (h : bigL ls = false) : ∀ p ∈ ls, p.length ≤ 60000 := fun p hp => by
  unfold bigL at h
  have := List.any_eq_false.1 h p hp
  simp at this; omega
set_option maxRecDepth 100000 in
set_option maxHeartbeats 4000000 in
theorem RReset_any {w0 w : World} {br : Nat} {H E : Nat} {v : Value} (A : Option Addr) (N c : Nat) (ls : List (List UInt8)) (h : RJAt w br H E v) (hs : StrsAt w A N ls) (hl : ls.length ≤ 8796093022208) (hp : ∀ p ∈ ls, p.length ≤ 140737488355328) (hH : H ≤ 100000) (hE : E ≤ 4611686018427387904) (hb : w0.heap.size ≤ br) (hq : Q w0 w) :
    Calls Tryz.prog 38 #[.pointer (some ⟨br, 0, none⟩), .slice A N c] w fun e w' => e = .returned (.int .i64 (resE H E ls)) ∧ ((resE H E ls ≠ 0 ∧ w' = w) ∨ (resE H E ls = 0 ∧ ∃ v', RJAt w' br H (E + 1 : Nat) v' ∧ OwnS 9 w0 w' v' (ls.map strV))) ∧ (∀ k, k < w.heap.size → k ≠ br → w'.heap[k]? = w.heap[k]?) ∧ Q w0 w' := by
  have HA := Lib.hid h
  have HQ := Lib.hid hq
  have HS := Lib.hid hs
  have HP := Lib.hid hp
  have hN : ls.length = N := hs.1.symm
  have HN := Lib.hid hN
  have hNi : (N : Int) ≤ 8796093022208 := by omega
  have hHi : (H : Int) ≤ 100000 := by omega
  have c0 := h.c0
  have c1 := h.c1
  have HC2 := Lib.hid h.c2
  have HEE := Lib.hid hE
  obtain ⟨R, hR⟩ : ∃ R, resE H E ls = R := ⟨_, rfl⟩
  rw [hR]
  unfold resE at hR
  have HR := Lib.hid hR
  clear h hq hs hp hN hR hE
  go_enter Tryz.func38, Tryz.ntmps38
  go_wp2_with fail
  go_loop [5, 6] (fun nv iv => ∃ i x : Nat, i ≤ N ∧ iv = .int .i64 (i : Int) ∧ nv = .int .i64 (x : Int) ∧ x ≤ 40000 * i ∧ Hid (x = wantS (ls.take i)) ∧ Hid (bigL (ls.take i) = false)) (fun _ iv => N - (intOf iv).toNat)
  case atStart => exact ⟨0, 0, by omega, rfl, rfl, by omega, rfl, rfl⟩
  case round =>
    obtain ⟨i, x, hi, rfl, rfl, hx, HX, HBG⟩ := hrel
    by_cases hlt : i < N
    · have g1 : decide (i < N) = true := decide_eq_true hlt
      obtain ⟨ad, rfl, hc⟩ := HS.out.at hlt
      have hil : i < ls.length := by rw [HN.out]; exact hlt
      have ht := wantS_take_succ hil
      have hpl := HP.out _ (gL_mem hil)
      have hbt : bigL (ls.take (i + 1)) = (bigL (ls.take i) || decide (60000 < (gL ls i).length)) := by rw [take_one hil, bigL_snoc]
      have hbo := bigL_of hil
      obtain ⟨p, hp⟩ : ∃ p, gL ls i = p := ⟨_, rfl⟩
      rw [hp] at ht hpl hc hbt hbo
      have hpi : (p.length : Int) ≤ 140737488355328 := by omega
      by_cases hbig : 60000 < p.length
      · have g2 : decide ((60000 : Int) < (p.length : Int)) = true := decide_eq_true (by omega)
        have hr := HR.out
        rw [hbo hbig, if_pos rfl] at hr
        have HR1 := Lib.hid hr
        clear hr ht hbt hbo hp hpl
        go_wp2_with fail
        go_ret
        rw [← HR1.out]
        exact ⟨rfl, .inl ⟨by decide, rfl⟩, fun _ _ _ => rfl, HQ.out⟩
      · have g2 : decide ((60000 : Int) < (p.length : Int)) = false := decide_eq_false (by omega)
        have hw := Wants_any p w (by omega)
        have hwn : wantN p ≤ 40000 := by unfold wantN; omega
        have HX2 : Hid (x + wantN p = wantS (ls.take (i + 1))) := Lib.hid (by rw [ht, HX.out])
        have HB2 : Hid (bigL (ls.take (i + 1)) = false) := Lib.hid (by rw [hbt, HBG.out, decide_eq_false hbig]; rfl)
        have HW := Lib.hid hw
        have hxi : (x : Int) + (wantN p : Int) ≤ 40000 * 8796093022209 := by omega
        clear ht hbt hbo hp hpl hw hbig
        go_wp2_with fail
        refine HW.out.mono ?_
        rintro e w1 ⟨rfl, rfl⟩
        go_wp2_with fail
        go_round
        case rel => exact ⟨i + 1, x + wantN p, by omega, by go_num, by go_num, by omega, HX2.out, HB2.out⟩
        case measure => simp [intOf]; omega
    · have g1 : decide (i < N) = false := decide_eq_false hlt
      have hte : ls.take i = ls := List.take_of_length_le (by rw [HN.out]; omega)
      have hx2 := HX.out
      have hb2 := HBG.out
      rw [hte] at hx2 hb2
      have hr := HR.out
      rw [hb2, if_neg (by decide), ← hx2] at hr
      by_cases he : 4611686018427387904 ≤ E
      · have g3 : decide ((4611686018427387904 : Int) ≤ (E : Int)) = true := decide_eq_true (by omega)
        rw [if_pos he] at hr
        have HR1 := Lib.hid hr
        clear hr he hte hx2 hb2
        go_wp2_with fail
        go_ret
        rw [← HR1.out]
        exact ⟨rfl, .inl ⟨by decide, rfl⟩, fun _ _ _ => rfl, HQ.out⟩
      have g3 : decide ((4611686018427387904 : Int) ≤ (E : Int)) = false := decide_eq_false (by omega)
      rw [if_neg he] at hr
      have hE1 : (E : Int) < 4611686018427387904 := by omega
      by_cases hf : H < x
      · have g4 : decide (H < x) = true := decide_eq_true hf
        rw [if_pos hf] at hr
        have HR1 := Lib.hid hr
        clear hr he hte hx2 hb2 hf
        go_wp2_with fail
        go_ret
        rw [← HR1.out]
        exact ⟨rfl, .inl ⟨by decide, rfl⟩, fun _ _ _ => rfl, HQ.out⟩
      have g4 : decide (H < x) = false := decide_eq_false hf
      rw [if_neg hf] at hr
      have HR1 := Lib.hid hr
      clear hr he hte hx2 hb2 hf hlt hi
      go_upto_region 12 with (fail)
      iterate 7 go_step
      refine wpList_append_strs rfl (.const (.slice none 0 0)) (.tmp 38) rfl w0 w (.slice none 0 0) [] ls A N c HN.out (by rfl) (OwnS.nil _ _ _) (by rfl) HS.out HQ.out.size (by simp; omega) ?_
      intro v5 w5 ho5 hg5
      rw [List.nil_append] at ho5
      have hq5 : Q w w5 := ⟨hg5.os, hg5.tape, hg5.output, hg5.size, fun k hk => hg5.block k hk (by simp [Value.ownBlock])⟩
      have hA5 := HA.out.q hq5
      have hA6 := hA5.s2 v5
      have hA7 := hA6.s1 ((E : Int) + 1)
      have ho6 : OwnS 9 w0 ((w5.setCell ⟨br, 2, none⟩ v5).setCell ⟨br, 1, none⟩ (.int .i64 ((E : Int) + 1))) v5 (ls.map strV) := by
        refine World.ownsRow.kept (World.ownsRow.kept ho5 (gb_setCell w5 br 2 v5) (.inr fun e => ?_)) (gb_setCell _ br 1 _) (.inr fun e => ?_)
        all_goals
          obtain ⟨_, ht⟩ := OwnS.type ho5 e
          rw [elemT_of hA5] at ht; revert ht; decide
      have hq6 := ((HQ.out.trans hq5).setNew (p := ⟨br, 2, none⟩) hb v5).setNew (p := ⟨br, 1, none⟩) hb (.int .i64 ((E : Int) + 1))
      have hkeep : ∀ k, k < w.heap.size → k ≠ br → ((w5.setCell ⟨br, 2, none⟩ v5).setCell ⟨br, 1, none⟩ (.int .i64 ((E : Int) + 1))).heap[k]? = w.heap[k]? := fun k h1 h2 => by
        rw [(gb_setCell _ br 1 _).block k (by have := hq5.size; have := (gb_setCell w5 br 2 v5).size; omega) (fun e => by injection e with e; exact h2 e), (gb_setCell w5 br 2 v5).block k (by have := hq5.size; omega) (fun e => by injection e with e; exact h2 e)]
        exact Below.block hq5 k h1
      have k2 := hA5.c2
      have f2 := hA5.fz 2
      have k1 := hA6.c1
      have f1 := hA6.fz 1
      have H7 := Lib.hid hA7
      have HO6 := Lib.hid ho6
      have HQ6 := Lib.hid hq6
      have HK6 := Lib.hid hkeep
      obtain ⟨A5, c5, hv5, _⟩ := OwnS.toS ho5
      rw [HN.out] at hv5
      subst hv5
      clear hA5 hA6 hA7 ho6 hq6 hkeep hq5 ho5 hg5
      go_wp2_with fail
      go_ret
      rw [← HR1.out]
      exact ⟨rfl, .inr ⟨rfl, _, H7.out, HO6.out⟩, HK6.out, HQ6.out⟩
set_option maxRecDepth 100000 in
set_option maxHeartbeats 2000000 in
theorem RCopy_any {w : World} {br : Nat} {H E : Int} {v : Value} {ls : List (List UInt8)} (h : RJAt w br H E v) (hs : StrS w v ls) (hl : ls.length ≤ 2000000) :
    Calls Tryz.prog 35 #[.pointer (some ⟨br, 0, none⟩)] w fun e w' => ∃ bn v', e = .returned (.pointer (some ⟨bn, 0, none⟩)) ∧ RJAt w' bn H E v' ∧ OwnS 9 w w' v' (ls.map strV) ∧ w.heap.size ≤ bn ∧ Q w w' := by
  obtain ⟨A, cap, rfl, hst, _⟩ := hs
  have k0 : ∀ m : QW w, m.val.cell? ⟨br, 0, none⟩ = some (.int .i64 H) := fun m => m.cell h.c0
  have k1 : ∀ m : QW w, m.val.cell? ⟨br, 1, none⟩ = some (.int .i64 E) := fun m => m.cell h.c1
  have k2 : ∀ m : QW w, m.val.cell? ⟨br, 2, none⟩ = some (.slice A ls.length cap) := fun m => m.cell h.c2
  have HST := Lib.hid hst
  clear h hst
  obtain ⟨N, hN⟩ : ∃ N, ls.length = N := ⟨_, rfl⟩
  rw [hN] at k2 HST hl
  have HN := Lib.hid hN
  clear hN
  go_enter Tryz.func35, Tryz.ntmps35
  go_wp2_with fail
  refine wp_region_noPanic ?_
  refine wp_plan [([0, 1, 2, 3, 4, 5, 6, 7, 8, 9, 10, 11], [12]), ([13], [14, 15])] (by kernel_rfl) (by kernel_rfl) (fun _ _ _ _ _ h => h) ?_
  simp only [wpPlan, wpListK, List.map_cons, List.map_nil, Array.getD_eq_getD_getElem?, List.getElem?_toArray, List.getElem?_cons_succ, List.getElem?_cons_zero, Option.getD_some]
  (repeat (go_big_quiet_step (fail)))
  refine wpQuiet_nil ?_
  clear k0 k1 k2
  obtain ⟨Wd, hWd⟩ : ∃ W, w.drew = W := ⟨_, rfl⟩
  have hqd : Q w Wd := by rw [← hWd]; exact (Q.refl w).drew
  rw [hWd]
  clear hWd
  intro K hK
  refine wpList_append_strs rfl (.const (.slice none 0 0)) (.tmp 14) rfl w Wd (.slice none 0 0) [] ls A N cap HN.out (by rfl) (OwnS.nil _ _ _) (by rfl) (HST.out.q hqd) hqd.size (by simp; omega) ?_
  intro v5 w5 ho5 hg5
  rw [List.nil_append] at ho5
  have hq5 : Q w w5 := gb_q_own hg5 hqd (fun k hk => by cases hk)
  have HO5 := Lib.hid ho5
  have HQ5 := Lib.hid hq5
  obtain ⟨A5, c5, rfl, _⟩ := OwnS.toS ho5
  clear ho5 hg5 hqd hq5
  refine wpList_nil ?_
  refine hK.out _ _ ⟨⟨_, HQ5.out⟩, rfl⟩ ?_
  clear hK K
  simp only [Act.put, List.setIfInBounds_toArray, List.set_cons_succ, List.set_cons_zero]
  (repeat (go_big_quiet_step (fail)))
  refine wpQuiet_nil ?_
  have hb6 : RJAt (w5.alloc (.cells #[.int .i64 H, .int .i64 E, .slice A5 ls.length c5] 44)) w5.heap.size H E (.slice A5 ls.length c5) := (MapKept.heap_alloc w5 _).1
  have hq6 : Q w5 (w5.alloc (.cells #[.int .i64 H, .int .i64 E, .slice A5 ls.length c5] 44)) := (Q.refl _).alloc _
  have H6 := Lib.hid hb6
  have HO6 := Lib.hid (HO5.out.q hq6)
  have HQ6 := Lib.hid (HQ5.out.trans hq6)
  have HS5 := Lib.hid HQ5.out.size
  clear hb6 hq6 HO5 HQ5
  generalize ls.length = m at H6 HO6 HQ6 ⊢
  intro K hK
  go_wp2_with fail
  refine hK.out _ _ ⟨⟨_, HQ6.out⟩, rfl⟩ ?_
  clear hK K
  intro K hK
  go_wp2_with fail
  refine hK.out _ _ ⟨⟨_, HQ6.out⟩, rfl⟩ ?_
  clear hK K
  refine NoPanic.normal ?_
  go_wp2_with fail
  go_ret
  exact ⟨_, _, rfl, H6.out, HO6.out, HS5.out, HQ6.out⟩
set_option maxHeartbeats 400000 in
theorem Pending_any {w0 w : World} {bd bp gh : Nat} {d : DskS} (h : DAt w0 w bd bp gh d) (hw : d.wait.length ≤ 1000000) :
    Calls Tryz.prog 11 #[.pointer (some ⟨bd, 0, none⟩)] w fun e w' => e = .returned (.int .i64 (d.wait.length : Int)) ∧ w = w' := by
  obtain ⟨wv, life, hb1, hb2⟩ := h.box
  have c2 : w.cell? ⟨bd, 2, none⟩ = some wv := by rw [cell_of_row _ _ _ _ _ _ hb1]; rfl
  obtain ⟨A, cp, hv, hlc, hat⟩ := hb2.at
  subst hv
  obtain ⟨m, hm⟩ : ∃ m, d.wait.length = m := ⟨_, rfl⟩
  rw [hm] at c2 ⊢
  clear h hb1 hb2 hat hlc hm hw
  go_enter Tryz.func11, Tryz.ntmps11
  go_wp2_with fail
  go_ret
  exact ⟨rfl, rfl⟩
end Go.Proofs.YtcbepjepcabllaaGreatDoor
/- A disk's Rot. -/
set_option linter.unusedVariables false
set_option linter.unusedSimpArgs false
namespace Go.Proofs.YtcbepjepcabllaaGreatDoor
open Go Go.RowKit
theorem arrB_set (l : List UInt8) (i : Nat) (x : UInt8) : (arrB l).setIfInBounds i (u8V x) = arrB (l.set i x) := by
  unfold arrB
  rw [List.setIfInBounds_toArray, List.map_set]
theorem DAt.poke {w0 w : World} {bd bp gh : Nat} {d : DskS} (h : DAt w0 w bd bp gh d) (i : Nat) (x : UInt8) : DAt w0 (w.setCell ⟨gh, i, none⟩ (u8V x)) bd bp gh { d with has := d.has.set i x } ∧ K w0 [] w (w.setCell ⟨gh, i, none⟩ (u8V x)) := by
  obtain ⟨wv, life, h1, h2⟩ := h.box
  obtain ⟨acts, h3, h4⟩ := h.pow
  have hm := h.mem
  have hb : (d.has.set i x).length = d.has.length := List.length_set
  have keep : ∀ {k : Nat} {cs : Array Value} {t : TypeId} {fz : Nat × Nat}, w.heap[k]? = some (.cells cs t fz) → t ≠ 5 → (w.setCell ⟨gh, i, none⟩ (u8V x)).heap[k]? = some (.cells cs t fz) := fun {k cs t fz} hk hd => by
    rw [(gb_setCell w gh i (u8V x)).block k (lt_of_heap hk) (fun e => by injection e with e; subst e; rw [hm] at hk; injection hk with hk; injection hk with _ e2 _; exact hd e2.symm)]; exact hk
  refine ⟨⟨⟨wv, life, ?_, h2.g (gb_setCell w gh i _) (fun k hk e => ?_)⟩, ⟨acts, keep h3 (by decide), h4⟩, ?_, h.nd, h.np, h.nh, ?_⟩, K.gb (gb_setCell w gh i _) h.nh (.inr (by rw [elemT_of hm]; decide))⟩
  · rw [hb]; exact keep h1 (by decide)
  · injection e with e; subst e
    obtain ⟨_, _, cur, fz, hh⟩ := h2.block hk
    rw [hm] at hh; injection hh with hh; injection hh with _ e2 _; revert e2; decide
  · rw [heap_setCell_any w gh i _ _ _ _ hm, arrB_set]
  · have hn : DskS.n { d with has := d.has.set i x } = d.n := by unfold DskS.n; rw [hb]
    exact ⟨by rw [hn]; rw [hb]; exact h.ok.len, by rw [hn]; exact h.ok.most, h.ok.fuse, by rw [hn]; exact h.ok.wait⟩
theorem DAt.byte {w0 w : World} {bd bp gh : Nat} {d : DskS} (h : DAt w0 w bd bp gh d) {i : Nat} (hi : i < d.has.length) : w.cell? ⟨gh, i, none⟩ = some (.int .u8 ((gB d.has i).toNat : Int)) := by
  rw [cell_of_row _ _ _ _ _ _ h.mem]
  unfold arrB gB
  simp [List.getD, hi, u8V]
theorem bits_byte (a b : Int) : ∃ x : UInt8, bits .xor .u8 a b = (x.toNat : Int) := by
  have h : ∃ n : Nat, bits .xor .u8 a b = (n : Int) ∧ n < 256 := by
    show ∃ n : Nat, IntKind.u8.wrap ((BitVec.ofInt 8 _ ^^^ BitVec.ofInt 8 _).toNat : Int) = (n : Int) ∧ n < 256
    generalize (BitVec.ofInt 8 a ^^^ BitVec.ofInt 8 b) = v
    refine ⟨v.toNat, ?_, v.isLt⟩
    rw [IntKind.wrap_u8]
    have := v.isLt
    omega
  obtain ⟨n, h1, h2⟩ := h
  exact ⟨UInt8.ofNat n, by rw [h1]; congr 1; simp; omega⟩
set_option maxRecDepth 100000 in
set_option maxHeartbeats 4000000 in
theorem Rot_any {w0 w : World} {bd bp gh : Nat} {d : DskS} (k b : Nat) (h : DAt w0 w bd bp gh d) (hk : k < d.n) (hb : b < 512) (hd : d.dead = false) :
    Calls Tryz.prog 44 #[.pointer (some ⟨bd, 0, none⟩), .int .i64 (k : Int), .int .i64 (b : Int)] w fun e w' => e = .returned .nilIface ∧ (∃ x, DAt w0 w' bd bp gh { d with has := d.has.set (k * 64 + b / 8) x }) ∧ K w0 [] w w' := by
  have HD := Lib.hid h
  have hkn := h.ok.most
  have hlen := h.ok.len
  have c3 := h.dead_cell
  rw [hd] at c3
  have HSD := Lib.hid (Sectors_dk h)
  have hki : (k : Int) ≤ 8192 := by omega
  have hbi : (b : Int) < 512 := by omega
  obtain ⟨n, hn⟩ : ∃ n, d.n = n := ⟨_, rfl⟩
  rw [hn] at hk hlen HSD
  have g0 : decide ((n : Int) ≤ (k : Int)) = false := by simp; omega
  have g1 : decide ((k : Int) < 0) = false := by simp
  have g2 : decide ((b : Int) < 0) = false := by simp
  have g3 : decide ((512 : Int) ≤ (b : Int)) = false := by simp; omega
  have hi8 : k * 64 + b / 8 < d.has.length := by omega
  have HI8 := Lib.hid hi8
  have HSC := Lib.hid (fun m : QW w => (sector_any k (h.q m.le) (by rw [hn]; exact hk) : Calls Tryz.prog 29 #[.pointer (some ⟨bd, 0, none⟩), .int .i64 (k : Int)] m.val fun e w' => e = .returned (.slice (some ⟨gh, k * 64, none⟩) 64 (d.has.length - k * 64)) ∧ m.val = w'))
  have kc : ∀ m : QW w, m.val.cell? ⟨gh, k * 64 + b / 8, none⟩ = some (.int .u8 ((gB d.has (k * 64 + b / 8)).toNat : Int)) := fun m => m.cell (h.byte hi8)
  clear h hd hkn hlen hn hi8
  go_enter Tryz.func44, Tryz.ntmps44
  go_upto_region 5 with (fail)
  refine HSD.out.mono ?_
  rintro e w1 ⟨rfl, rfl⟩
  go_upto_region 5 with (fail)
  refine wp_region_q_tail 12 (by kernel_rfl) (by kernel_rfl) ?_
  simp only [List.take_succ_cons, List.take_zero, List.drop_succ_cons, List.drop_zero, Act.put]
  (repeat (go_big_quiet_step ((go_at_call 29; exact calls_qs (HSC.out _)))))
  refine wpQuiet_nil ?_
  rintro wa ⟨ma, hma⟩
  have hqa : Q w wa := by rw [hma]; exact ma.le
  have HDa := HD.out.q hqa
  have ca := HDa.byte HI8.out
  have fa : wa.frozen? ⟨gh, k * 64 + b / 8, none⟩ = false := frozen_of_row wa gh _ _ _ HDa.mem
  obtain ⟨x, hx⟩ := bits_byte ((gB d.has (k * 64 + b / 8)).toNat : Int) ((2 : Int) ^ (b % 8) % 256)
  have HX := Lib.hid hx
  obtain ⟨hp1, hp2⟩ := HDa.poke (k * 64 + b / 8) x
  have HP1 := Lib.hid hp1
  have HP2 := Lib.hid ((K.q (w0 := w0) (S := []) hqa).trans hp2)
  clear hp1 hp2 HDa hma ma hqa kc HSC hx HD
  rw [HX.out]
  go_wp2_with fail
  go_ret
  exact ⟨rfl, ⟨x, HP1.out⟩, HP2.out⟩
end Go.Proofs.YtcbepjepcabllaaGreatDoor
/- The document's Unpack. -/
set_option linter.unusedVariables false
set_option linter.unusedSimpArgs false
namespace Go.Proofs.YtcbepjepcabllaaGreatDoor
open Go Go.RowKit
theorem gB_sub_to (l : List UInt8) (k i : Nat) : gB (sub l k l.length) i = gB l (k + i) := by
  unfold gB sub; rw [List.take_length]; simp [List.getD, List.getElem?_drop]
theorem nAt_gB (l : List UInt8) (k : Nat) : (nAt l k : Int) = (gB l k).toNat * 16777216 + (gB l (k + 1)).toNat * 65536 + (gB l (k + 2)).toNat * 256 + (gB l (k + 3)).toNat := by
  rw [← nAt_r32]; unfold r32; rw [gB_sub_to, gB_sub_to, gB_sub_to, gB_sub_to]; rfl
set_option maxHeartbeats 1000000 in
theorem Read32_any (l : List UInt8) (k : Nat) (w : World) (h0 : k + 4 ≤ l.length) (h1 : k ≤ 1000) :
    Calls Tryz.prog 95 #[.string ⟨l.toArray⟩, .int .i64 (k : Int)] w fun e w' => e = .returned (.int .i64 (nAt l k : Int)) ∧ Q w w' := by
  have b0 := gB_lt l k
  have b1 := gB_lt l (k + 1)
  have b2 := gB_lt l (k + 2)
  have b3 := gB_lt l (k + 3)
  have hr : bits .or .i64 (bits .or .i64 (bits .or .i64 (((gB l k).toNat : Int) * 16777216) (((gB l (k + 1)).toNat : Int) * 65536)) (((gB l (k + 2)).toNat : Int) * 256)) ((gB l (k + 3)).toNat : Int) = (nAt l k : Int) :=
    (or_four _ _ _ _ (by omega) (by omega) (by omega) (by omega) (by omega) (by omega) (by omega) (by omega)).trans (nAt_gB l k).symm
  have d0 : decide (k < l.length) = true := by simp; omega
  have d1 : decide ((k : Int) + 1 < (l.length : Int)) = true := by simp; omega
  have d2 : decide ((k : Int) + 2 < (l.length : Int)) = true := by simp; omega
  have d3 : decide ((k : Int) + 3 < (l.length : Int)) = true := by simp; omega
  have p1 : 0 ≤ (k : Int) + 1 := by omega
  have p2 : 0 ≤ (k : Int) + 2 := by omega
  have p3 : 0 ≤ (k : Int) + 3 := by omega
  have t1 : ((k : Int) + 1).toNat = k + 1 := by omega
  have t2 : ((k : Int) + 2).toNat = k + 2 := by omega
  have t3 : ((k : Int) + 3).toNat = k + 3 := by omega
  have hk : (k : Int) ≤ 1000 := by omega
  go_enter Tryz.func95, Tryz.ntmps95
  go_wp2_with fail
  refine wp_region_q (by kernel_rfl) (by kernel_rfl) ?_
  repeat (go_big_quiet_step (fail))
  refine wpQuiet_nil ?_
  rintro _ ⟨⟨w1, hq1⟩, rfl⟩
  go_wp2_with fail
  go_ret
  exact ⟨rfl, hq1⟩
/-- What it says. -/
def RUp (s : List UInt8) (e n : Int) (x : Ending) : Prop := (UnpOk s e n ∧ x = .returned (.tuple #[.string ⟨(payL s).toArray⟩, .int .i64 (endsN (nAt s 4)), .bool true])) ∨ (¬ UnpOk s e n ∧ x = .returned (.tuple #[.string ⟨#[]⟩, .int .i64 0, .bool false]))
set_option maxRecDepth 100000 in
set_option maxHeartbeats 2000000 in
theorem RUnpack_bad1 (s : List UInt8) (e n : Int) (w : World) (hl : s.length ≤ 281474976710656) (h : rightB e n = false ∨ s.length < 24 ∨ (gB s 0).toNat ≠ 1) :
    Calls Tryz.prog 87 #[.string ⟨s.toArray⟩, .int .i64 e, .int .i64 n] w fun x w' => RUp s e n x ∧ Q w w' := by
  have hn : ¬ UnpOk s e n := by
    rintro ⟨a, b, c, _⟩
    rcases h with h | h | h
    · rw [h] at a; cases a
    · omega
    · exact h c
  have HR : RUp s e n (.returned (.tuple #[.string ⟨#[]⟩, .int .i64 0, .bool false])) := .inr ⟨hn, rfl⟩
  have HRR := Lib.hid HR
  clear hn HR
  by_cases h24 : s.length < 24
  · have d0 : decide ((s.length : Int) < 24) = true := by simp; omega
    clear h
    go_enter Tryz.func87, Tryz.ntmps87
    go_wp2_with fail
    go_ret3
    exact ⟨HRR.out, Q.refl _⟩
  have d0 : decide ((s.length : Int) < 24) = false := by simp; omega
  by_cases h1 : (gB s 0).toNat = 1
  case neg =>
    have b1 : (((gB s 0).toNat : Int) != 1) = true := by simp; omega
    clear h h1
    go_enter Tryz.func87, Tryz.ntmps87
    go_wp2_with fail
    go_ret3
    exact ⟨HRR.out, Q.refl _⟩
  have b1 : (((gB s 0).toNat : Int) != 1) = false := by simp [h1]
  have hr : rightB e n = false := by rcases h with h | h | h; exact h; exact absurd h h24; exact absurd h1 h
  clear h h1
  have hr2 := rightB_false hr
  clear hr
  by_cases e0 : e < 0
  · have g1 : decide (e < 0) = true := decide_eq_true e0
    clear e0 hr2
    go_enter Tryz.func87, Tryz.ntmps87
    go_wp2_with fail
    go_ret3
    exact ⟨HRR.out, Q.refl _⟩
  have g1 : decide (e < 0) = false := decide_eq_false e0
  by_cases e1 : 4611686018427387904 < e
  · have g2 : decide (4611686018427387904 < e) = true := decide_eq_true e1
    clear e0 e1 hr2
    go_enter Tryz.func87, Tryz.ntmps87
    go_wp2_with fail
    go_ret3
    exact ⟨HRR.out, Q.refl _⟩
  have g2 : decide (4611686018427387904 < e) = false := decide_eq_false e1
  by_cases n0 : n < 0
  · have g3 : decide (n < 0) = true := decide_eq_true n0
    clear e0 e1 n0 hr2
    go_enter Tryz.func87, Tryz.ntmps87
    go_wp2_with fail
    go_ret3
    exact ⟨HRR.out, Q.refl _⟩
  have g3 : decide (n < 0) = false := decide_eq_false n0
  have n1 : 4294967295 < n := by omega
  have g4 : decide (4294967295 < n) = true := decide_eq_true n1
  clear e0 e1 n0 n1 hr2
  go_enter Tryz.func87, Tryz.ntmps87
  go_wp2_with fail
  go_ret3
  exact ⟨HRR.out, Q.refl _⟩
theorem sub_8_20 (s : List UInt8) (h : 20 ≤ s.length) : sub s 8 20 = sub s 8 12 ++ sub s 12 20 := by
  unfold sub
  rw [show s.take 12 = (s.take 20).take 12 by rw [List.take_take]; rfl]
  generalize s.take 20 = t
  rw [show t.drop 12 = (t.drop 8).drop 4 by rw [List.drop_drop]]
  rw [show (t.take 12).drop 8 = (t.drop 8).take 4 by rw [List.drop_take]]
  rw [List.take_append_drop]
set_option maxRecDepth 100000 in
set_option maxHeartbeats 2000000 in
theorem RUnpack_bad2 (s : List UInt8) (e n : Int) (w : World) (hl : s.length ≤ 281474976710656) (hr : rightB e n = true) (h24 : 24 ≤ s.length) (h1 : (gB s 0).toNat = 1) (h : 60000 < nAt s 4 ∨ s.length < endsN (nAt s 4)) :
    Calls Tryz.prog 87 #[.string ⟨s.toArray⟩, .int .i64 e, .int .i64 n] w fun x w' => RUp s e n x ∧ Q w w' := by
  have hn : ¬ UnpOk s e n := by rintro ⟨_, _, _, a, b, _⟩; omega
  have HR : RUp s e n (.returned (.tuple #[.string ⟨#[]⟩, .int .i64 0, .bool false])) := .inr ⟨hn, rfl⟩
  have HRR := Lib.hid HR
  clear hn HR
  (have l1 : ∀ k, (U32 k).length = 4 := length_U32); (obtain ⟨e0, e1, n0, n1⟩ := right_spec hr); (have d0 : decide ((s.length : Int) < 24) = false := by simp; omega); (have b1 : (((gB s 0).toNat : Int) != 1) = false := by simp [h1]); (have g1 : decide (e < 0) = false := decide_eq_false (by omega)); (have g2 : decide (4611686018427387904 < e) = false := decide_eq_false (by omega)); (have g3 : decide (n < 0) = false := decide_eq_false (by omega)); (have g4 : decide (4294967295 < n) = false := decide_eq_false (by omega))
  have HRD := Lib.hid (Read32_any s 4 w (by omega) (by omega))
  unfold endsN at h
  obtain ⟨N, hN⟩ : ∃ N, nAt s 4 = N := ⟨_, rfl⟩
  rw [hN] at h HRD
  clear h1 hN hr
  by_cases hN : 60000 < N
  · have d1 : decide (60000 < (N : Int)) = true := by simp; omega
    clear h hN
    go_enter Tryz.func87, Tryz.ntmps87
    go_wp2_with fail
    refine HRD.out.mono ?_
    rintro x w1 ⟨rfl, hq1⟩
    go_wp2_with fail
    go_ret3
    exact ⟨HRR.out, hq1⟩
  · have d1 : decide (60000 < (N : Int)) = false := by simp; omega
    have hN2 : (N : Int) ≤ 60000 := by omega
    have HS := Lib.hid (fun w => Sectors_any (24 + (N : Int)) w (by omega) (by omega))
    have hs : (s.length : Int) < (24 + (N : Int) + 63) / 64 * 64 := by omega
    have hs1 : 0 ≤ (24 + (N : Int) + 63) / 64 ∧ (24 + (N : Int) + 63) / 64 ≤ 1000 := by omega
    obtain ⟨K, hK⟩ : ∃ K, (24 + (N : Int) + 63) / 64 = K := ⟨_, rfl⟩
    rw [hK] at HS hs hs1
    have d2 : decide ((s.length : Int) < K * 64) = true := decide_eq_true hs
    clear h hN hK hs
    go_enter Tryz.func87, Tryz.ntmps87
    go_wp2_with fail
    refine HRD.out.mono ?_
    rintro x w1 ⟨rfl, hq1⟩
    go_wp2_with fail
    refine (HS.out _).mono ?_
    rintro x w2 ⟨rfl, rfl⟩
    go_wp2_with fail
    go_ret3
    exact ⟨HRR.out, hq1⟩
set_option maxRecDepth 100000 in
set_option maxHeartbeats 4000000 in
theorem RUnpack_rest (s : List UInt8) (e n : Int) (w : World) (hl : s.length ≤ 281474976710656) (hr : rightB e n = true) (h24 : 24 ≤ s.length) (h1 : (gB s 0).toNat = 1) (hN : nAt s 4 ≤ 60000) (hE : endsN (nAt s 4) ≤ s.length) :
    Calls Tryz.prog 87 #[.string ⟨s.toArray⟩, .int .i64 e, .int .i64 n] w fun x w' => RUp s e n x ∧ Q w w' := by
  have hU : UnpOk s e n ↔ (sub s 8 12 = U32 n ∧ sub s 12 20 = U32 (e / 4294967296) ++ U32 e ∧ (nAt s 20 : Int) = ((crcSum (sub s 4 20 ++ sub s 24 (24 + nAt s 4))).toNat : Int)) := by
    have e8 := sub_8_20 s (by omega)
    have hcr : crcSum (sub s 4 20 ++ sub s 24 (24 + nAt s 4)) = uCrc s := by unfold crcSum uCrc; rw [crcMore_append]; rfl
    unfold UnpOk
    rw [e8, hcr, nAt_r32]
    unfold tailL
    constructor
    · rintro ⟨_, _, _, _, _, a, b⟩
      obtain ⟨a1, a2⟩ := List.append_inj a (by rw [length_sub, length_U32]; omega)
      exact ⟨a1, a2, b⟩
    · rintro ⟨a, b, c⟩
      exact ⟨hr, h24, h1, hN, hE, by rw [a, b], c⟩
  have HU := Lib.hid hU
  have HRY : UnpOk s e n → RUp s e n (.returned (.tuple #[.string ⟨(payL s).toArray⟩, .int .i64 (endsN (nAt s 4)), .bool true])) := fun h => .inl ⟨h, rfl⟩
  have HRN : ¬ UnpOk s e n → RUp s e n (.returned (.tuple #[.string ⟨#[]⟩, .int .i64 0, .bool false])) := fun h => .inr ⟨h, rfl⟩
  unfold payL at HRY
  have HY := Lib.hid HRY
  have HNO := Lib.hid HRN
  clear HRY HRN hU
  (have l1 : ∀ k, (U32 k).length = 4 := length_U32); (obtain ⟨e0, e1, n0, n1⟩ := right_spec hr); (have d0 : decide ((s.length : Int) < 24) = false := by simp; omega); (have b1 : (((gB s 0).toNat : Int) != 1) = false := by simp [h1]); (have g1 : decide (e < 0) = false := decide_eq_false (by omega)); (have g2 : decide (4611686018427387904 < e) = false := decide_eq_false (by omega)); (have g3 : decide (n < 0) = false := decide_eq_false (by omega)); (have g4 : decide (4294967295 < n) = false := decide_eq_false (by omega))
  have HRD := Lib.hid (Read32_any s 4 w (by omega) (by omega))
  unfold endsN at hE HY
  obtain ⟨N, hNN⟩ : ∃ N, nAt s 4 = N := ⟨_, rfl⟩
  rw [hNN] at hE hN HRD HY HU
  have d1 : decide (60000 < (N : Int)) = false := by simp; omega
  have hN2 : (N : Int) ≤ 60000 := by omega
  have hN3 : (24 + (N : Int)).toNat = 24 + N := by omega
  have hN4 : 24 + (N : Int) ≤ (s.length : Int) := by omega
  have HS := Lib.hid (fun w => Sectors_any (24 + (N : Int)) w (by omega) (by omega))
  have hs : (24 + (N : Int) + 63) / 64 * 64 ≤ (s.length : Int) := by omega
  have hs1 : 0 ≤ (24 + (N : Int) + 63) / 64 ∧ (24 + (N : Int) + 63) / 64 ≤ 1000 := by omega
  have hs2 : ((N : Int) + 87) / 64 * 64 = (24 + (N : Int) + 63) / 64 * 64 := by omega
  obtain ⟨K, hK⟩ : ∃ K, (24 + (N : Int) + 63) / 64 = K := ⟨_, rfl⟩
  rw [hK] at HS hs hs1 hs2
  rw [hs2] at HY
  have d2 : decide ((s.length : Int) < K * 64) = false := decide_eq_false (by omega)
  have c1 := (crcSum (sub s 4 20 ++ sub s 24 (24 + N))).isLt
  clear hN hNN hK h1 hr hs2 hE
  go_enter Tryz.func87, Tryz.ntmps87
  go_wp2_with fail
  refine HRD.out.mono ?_
  rintro x w1 ⟨rfl, hq1⟩
  go_wp2_with fail
  refine (HS.out _).mono ?_
  rintro x w2 ⟨rfl, rfl⟩
  by_cases h3 : sub s 8 12 = U32 n
  case neg =>
    have b2 : (sub s 8 12 == U32 n) = false := by simpa using h3
    have HX := Lib.hid (HNO.out (fun h => h3 (HU.out.1 h).1))
    clear h3
    go_wp2_with fail
    refine wp_region_q (by kernel_rfl) (by kernel_rfl) ?_
    (repeat (go_big_quiet_step (first | (go_at_call 96; exact calls_q (U32_any _ _ (by omega) (by omega))) | (go_at_call 97; exact calls_q (U64_any _ _ (by omega) (by omega))) | (go_at_call 95; exact calls_q (Read32_any _ 20 _ (by omega) (by omega))) | (go_at_call 98; exact calls_qs (SumR_any _ _ (by rw [List.length_append, length_sub, length_sub]; omega))))))
    refine wpQuiet_nil ?_
    rintro _ ⟨⟨w3, hq3⟩, rfl⟩
    go_wp2_with fail
    go_ret3
    exact ⟨HX.out, hq1.trans hq3⟩
  have b2 : (sub s 8 12 == U32 n) = true := by simpa using h3
  by_cases h4 : sub s 12 20 = U32 (e / 4294967296) ++ U32 e
  case neg =>
    have b3 : (sub s 12 20 == U32 (e / 4294967296) ++ U32 e) = false := by simpa using h4
    have HX := Lib.hid (HNO.out (fun h => h4 (HU.out.1 h).2.1))
    clear h3 h4
    go_wp2_with fail
    refine wp_region_q (by kernel_rfl) (by kernel_rfl) ?_
    (repeat (go_big_quiet_step (first | (go_at_call 96; exact calls_q (U32_any _ _ (by omega) (by omega))) | (go_at_call 97; exact calls_q (U64_any _ _ (by omega) (by omega))) | (go_at_call 95; exact calls_q (Read32_any _ 20 _ (by omega) (by omega))) | (go_at_call 98; exact calls_qs (SumR_any _ _ (by rw [List.length_append, length_sub, length_sub]; omega))))))
    refine wpQuiet_nil ?_
    rintro _ ⟨⟨w3, hq3⟩, rfl⟩
    go_wp2_with fail
    go_ret3
    exact ⟨HX.out, hq1.trans hq3⟩
  have b3 : (sub s 12 20 == U32 (e / 4294967296) ++ U32 e) = true := by simpa using h4
  by_cases h5 : (nAt s 20 : Int) = ((crcSum (sub s 4 20 ++ sub s 24 (24 + N))).toNat : Int)
  case neg =>
    have b4 : ((nAt s 20 : Int) != ((crcSum (sub s 4 20 ++ sub s 24 (24 + N))).toNat : Int)) = true := by simpa using h5
    have HX := Lib.hid (HNO.out (fun h => h5 (HU.out.1 h).2.2))
    clear h3 h4 h5
    go_wp2_with fail
    refine wp_region_q (by kernel_rfl) (by kernel_rfl) ?_
    (repeat (go_big_quiet_step (first | (go_at_call 96; exact calls_q (U32_any _ _ (by omega) (by omega))) | (go_at_call 97; exact calls_q (U64_any _ _ (by omega) (by omega))) | (go_at_call 95; exact calls_q (Read32_any _ 20 _ (by omega) (by omega))) | (go_at_call 98; exact calls_qs (SumR_any _ _ (by rw [List.length_append, length_sub, length_sub]; omega))))))
    refine wpQuiet_nil ?_
    rintro _ ⟨⟨w3, hq3⟩, rfl⟩
    go_wp2_with fail
    go_ret3
    exact ⟨HX.out, hq1.trans hq3⟩
  have b4 : ((nAt s 20 : Int) != ((crcSum (sub s 4 20 ++ sub s 24 (24 + N))).toNat : Int)) = false := by simpa using h5
  have HX := Lib.hid (HY.out (HU.out.2 ⟨h3, h4, h5⟩))
  clear h3 h4 h5
  go_wp2_with fail
  refine wp_region_q (by kernel_rfl) (by kernel_rfl) ?_
  (repeat (go_big_quiet_step (first | (go_at_call 96; exact calls_q (U32_any _ _ (by omega) (by omega))) | (go_at_call 97; exact calls_q (U64_any _ _ (by omega) (by omega))) | (go_at_call 95; exact calls_q (Read32_any _ 20 _ (by omega) (by omega))) | (go_at_call 98; exact calls_qs (SumR_any _ _ (by rw [List.length_append, length_sub, length_sub]; omega))))))
  refine wpQuiet_nil ?_
  rintro _ ⟨⟨w3, hq3⟩, rfl⟩
  go_wp2_with fail
  refine wp_region_q (by kernel_rfl) (by kernel_rfl) ?_
  (repeat (go_big_quiet_step ((go_at_call 70; exact calls_qs (HS.out _)))))
  refine wpQuiet_nil ?_
  rintro _ ⟨⟨w4, hq4⟩, rfl⟩
  go_wp2_with fail
  go_ret3
  exact ⟨HX.out, (hq1.trans hq3).trans hq4⟩
theorem RUnpack_any (s : List UInt8) (e n : Int) (w : World) (hl : s.length ≤ 281474976710656) :
    Calls Tryz.prog 87 #[.string ⟨s.toArray⟩, .int .i64 e, .int .i64 n] w fun x w' => RUp s e n x ∧ Q w w' := by
  by_cases h1 : rightB e n = true ∧ 24 ≤ s.length ∧ (gB s 0).toNat = 1
  · obtain ⟨hr, h24, h1⟩ := h1
    by_cases h2 : nAt s 4 ≤ 60000 ∧ endsN (nAt s 4) ≤ s.length
    · exact RUnpack_rest s e n w hl hr h24 h1 h2.1 h2.2
    · exact RUnpack_bad2 s e n w hl hr h24 h1 (by omega)
  · refine RUnpack_bad1 s e n w hl ?_
    by_cases h2 : rightB e n = false
    · exact .inl h2
    · have h2 : rightB e n = true := by simpa using h2
      by_cases h3 : s.length < 24
      · exact .inr (.inl h3)
      · exact .inr (.inr fun h4 => h1 ⟨h2, by omega, h4⟩)
end Go.Proofs.YtcbepjepcabllaaGreatDoor
/- The document's epoch of a half. -/
set_option linter.unusedVariables false
set_option linter.unusedSimpArgs false
namespace Go.Proofs.YtcbepjepcabllaaGreatDoor
open Go Go.RowKit
theorem RUnpack_yes (s : List UInt8) (e n : Int) (w : World) (hl : s.length ≤ 281474976710656) (h : UnpOk s e n) :
    Calls Tryz.prog 87 #[.string ⟨s.toArray⟩, .int .i64 e, .int .i64 n] w fun x w' => x = .returned (.tuple #[.string ⟨(payL s).toArray⟩, .int .i64 (endsN (nAt s 4)), .bool true]) ∧ Q w w' :=
  (RUnpack_any s e n w hl).mono fun x w' ⟨hx, hq⟩ => ⟨by rcases hx with ⟨_, hx⟩ | ⟨hn, _⟩; exact hx; exact absurd h hn, hq⟩
theorem RUnpack_no (s : List UInt8) (e n : Int) (w : World) (hl : s.length ≤ 281474976710656) (h : ¬ UnpOk s e n) :
    Calls Tryz.prog 87 #[.string ⟨s.toArray⟩, .int .i64 e, .int .i64 n] w fun x w' => x = .returned (.tuple #[.string ⟨#[]⟩, .int .i64 0, .bool false]) ∧ Q w w' :=
  (RUnpack_any s e n w hl).mono fun x w' ⟨hx, hq⟩ => ⟨by rcases hx with ⟨hn, _⟩ | ⟨_, hx⟩; exact absurd hn h; exact hx, hq⟩
/-- The number of some bytes. -/
def valL (l : List UInt8) (e : Nat) : Nat := l.foldl (fun e c => e * 256 + c.toNat) e
theorem valL_ge (l : List UInt8) : ∀ e, e ≤ valL l e := by
  induction l with
  | nil => intro e; exact Nat.le_refl _
  | cons c r ih => intro e; have := ih (e * 256 + c.toNat); show e ≤ valL r (e * 256 + c.toNat); omega
theorem eGo_some (l : List UInt8) : ∀ e r, eGo l e = some r → r = valL l e := by
  induction l with
  | nil => intro e r h; simp [eGo] at h; exact h.symm
  | cons c t ih =>
    intro e r h
    unfold eGo at h
    split at h
    · cases h
    · exact ih _ _ h
theorem eGo_none (l : List UInt8) : ∀ e, eGo l e = none → 4611686018427387904 < valL l e := by
  induction l with
  | nil => intro e h; simp [eGo] at h
  | cons c t ih =>
    intro e h
    unfold eGo at h
    split at h
    · have := valL_ge t (e * 256 + c.toNat)
      show _ < valL t (e * 256 + c.toNat)
      omega
    · exact ih _ h
theorem list8 (l : List UInt8) (h : l.length = 8) : l = [gB l 0, gB l 1, gB l 2, gB l 3, gB l 4, gB l 5, gB l 6, gB l 7] := by
  match l, h with
  | [a, b, c, d, e, f, g, i], _ => rfl
theorem gB_sub12 (s : List UInt8) (i : Nat) (h : i < 8) : gB (sub s 12 20) i = gB s (12 + i) := by
  unfold gB sub
  simp [List.getD, List.getElem?_take, show 12 + i < 20 by omega]
theorem val_nAt (s : List UInt8) (h : 64 ≤ s.length) : valL (sub s 12 20) 0 = nAt s 12 * 4294967296 + nAt s 16 := by
  have hl : (sub s 12 20).length = 8 := by rw [length_sub]; omega
  rw [list8 _ hl]
  simp only [gB_sub12 s _ (by decide : 0 < 8), gB_sub12 s _ (by decide : 1 < 8), gB_sub12 s _ (by decide : 2 < 8), gB_sub12 s _ (by decide : 3 < 8), gB_sub12 s _ (by decide : 4 < 8), gB_sub12 s _ (by decide : 5 < 8), gB_sub12 s _ (by decide : 6 < 8), gB_sub12 s _ (by decide : 7 < 8)]
  have h1 := nAt_gB s 12
  have h2 := nAt_gB s 16
  simp only [valL, List.foldl_cons, List.foldl_nil]
  simp only [Nat.add_zero, Nat.reduceAdd] at h1 h2 ⊢
  omega
theorem isHead_right {h : List UInt8} {e : Nat} (hh : isHead h e = true) : e ≤ 4611686018427387904 := by
  unfold isHead at hh
  rw [Bool.and_eq_true] at hh
  have := right_spec (of_decide_eq_true hh.1).1
  omega
theorem epN_val (s : List UInt8) (h : 64 ≤ s.length) : epN s = if 1 ≤ nAt s 12 * 4294967296 + nAt s 16 ∧ nAt s 12 * 4294967296 + nAt s 16 ≤ 4611686018427387904 then (if isHead (sub s 0 64) (nAt s 12 * 4294967296 + nAt s 16) then nAt s 12 * 4294967296 + nAt s 16 else 0) else 0 := by
  have hv := val_nAt s h
  obtain ⟨V, hV⟩ : ∃ V, nAt s 12 * 4294967296 + nAt s 16 = V := ⟨_, rfl⟩
  rw [hV] at hv ⊢
  unfold epN
  cases he : eGo (sub s 12 20) 0 with
  | none =>
    have := eGo_none _ _ he
    rw [if_neg (by omega)]
  | some e =>
    have := eGo_some _ _ _ he
    rw [hv] at this
    subst this
    simp only
    by_cases h1 : 1 ≤ e ∧ e ≤ 4611686018427387904
    · rw [if_pos h1]
    · rw [if_neg h1]
      split
      · rename_i hh
        have := isHead_right hh
        omega
      · rfl
theorem cast_lin (x c y : Nat) : ((x * c + y : Nat) : Int) = (x : Int) * (c : Int) + (y : Int) := by simp
theorem or_32 (x y : Int) (hx0 : 0 ≤ x) (hx1 : x ≤ 2147483647) (hy0 : 0 ≤ y) (hy1 : y < 4294967296) : bits .or .i64 (x * 4294967296) y = x * 4294967296 + y := by
  have e : (2 : Int) ^ 32 = 4294967296 := by decide
  have e2 : (2 : Int) ^ 63 = 9223372036854775808 := by decide
  exact or_i64 32 (x * 4294967296) y (by omega) (by rw [e]; exact Int.mul_emod_left _ _) (by rw [e2]; omega) hy0 (by rw [e]; exact hy1) (by rw [e2]; omega)
set_option maxRecDepth 100000 in
set_option maxHeartbeats 4000000 in
theorem Repoch_any (s : List UInt8) (w : World) (h64 : 64 ≤ s.length) (hl : s.length ≤ 10000000) :
    Calls Tryz.prog 86 #[.string ⟨s.toArray⟩] w fun e w' => e = .returned (.int .i64 (epN s : Int)) ∧ Q w w' := by
  have hep := epN_val s h64
  obtain ⟨R, hR⟩ : ∃ R, epN s = R := ⟨_, rfl⟩
  rw [hR] at hep ⊢
  have d0 : decide (s.length < 64) = false := by simp; omega
  have hg := gB_lt s 12
  have n12 := nAt_gB s 12
  have n16 := nAt_gB s 16
  have g13 := gB_lt s 13
  have g14 := gB_lt s 14
  have g15 := gB_lt s 15
  have g16 := gB_lt s 16
  have g17 := gB_lt s 17
  have g18 := gB_lt s 18
  have g19 := gB_lt s 19
  simp only [Nat.reduceAdd] at n12 n16
  have hb16 : (nAt s 16 : Int) < 4294967296 := by omega
  have hb12 : (nAt s 12 : Int) < 4294967296 := by omega
  by_cases hbig : 128 ≤ (gB s 12).toNat
  · have g1 : decide ((128 : Int) ≤ ((gB s 12).toNat : Int)) = true := by simp; omega
    rw [if_neg (by omega)] at hep
    have HE := Lib.hid hep
    clear hep hR n12 n16 hbig g13 g14 g15 g16 g17 g18 g19 hb16 hb12
    go_enter Tryz.func86, Tryz.ntmps86
    go_wp2_with fail
    go_ret
    exact ⟨by rw [HE.out]; rfl, Q.refl _⟩
  have g1 : decide ((128 : Int) ≤ ((gB s 12).toNat : Int)) = false := by simp; omega
  have hb : (nAt s 12 : Int) ≤ 2147483647 := by omega
  have HR1 := Lib.hid (fun w => Read32_any s 12 w (by omega) (by omega))
  have HR2 := Lib.hid (fun w => Read32_any s 16 w (by omega) (by omega))
  obtain ⟨x, hx⟩ : ∃ x, nAt s 12 = x := ⟨_, rfl⟩
  obtain ⟨y, hy⟩ : ∃ x, nAt s 16 = x := ⟨_, rfl⟩
  rw [hx] at HR1 hep hb hb12
  rw [hy] at HR2 hep hb16
  have hor : bits .or .i64 ((x : Int) * 4294967296) (y : Int) = (x : Int) * 4294967296 + (y : Int) := or_32 (x : Int) (y : Int) (by omega) hb (by omega) hb16
  obtain ⟨V, hV⟩ : ∃ V : Nat, x * 4294967296 + y = V := ⟨_, rfl⟩
  have hV2 : (x : Int) * 4294967296 + (y : Int) = (V : Int) := by rw [← hV, cast_lin]; rfl
  rw [hV] at hep
  rw [hV2] at hor
  have hVb : (V : Int) ≤ 9223372036854775807 := by omega
  clear hbig n12 n16 g13 g14 g15 g16 g17 g18 g19 hx hy hb12 hR hV hV2 hb16 hVb
  by_cases h1 : V < 1
  · have g2 : decide ((V : Int) < 1) = true := decide_eq_true (by omega)
    rw [if_neg (by omega)] at hep
    have HE := Lib.hid hep
    clear hep h1
    go_enter Tryz.func86, Tryz.ntmps86
    go_wp2_with fail
    refine (HR1.out _).mono ?_
    rintro e w1 ⟨rfl, hq1⟩
    go_wp2_with fail
    refine (HR2.out _).mono ?_
    rintro e w2 ⟨rfl, hq2⟩
    go_wp2_with fail
    go_ret
    exact ⟨by rw [HE.out]; rfl, hq1.trans hq2⟩
  have g2 : decide ((V : Int) < 1) = false := decide_eq_false (by omega)
  by_cases h2 : 4611686018427387904 < V
  · have g3 : decide (4611686018427387904 < (V : Int)) = true := decide_eq_true (by omega)
    rw [if_neg (by omega)] at hep
    have HE := Lib.hid hep
    clear hep h1 h2
    go_enter Tryz.func86, Tryz.ntmps86
    go_wp2_with fail
    refine (HR1.out _).mono ?_
    rintro e w1 ⟨rfl, hq1⟩
    go_wp2_with fail
    refine (HR2.out _).mono ?_
    rintro e w2 ⟨rfl, hq2⟩
    go_wp2_with fail
    go_ret
    exact ⟨by rw [HE.out]; rfl, hq1.trans hq2⟩
  have g3 : decide (4611686018427387904 < (V : Int)) = false := decide_eq_false (by omega)
  rw [if_pos (by omega)] at hep
  have hl64 : (sub s 0 64).length = 64 := by rw [length_sub]; omega
  have HU1 := Lib.hid (fun w => RUnpack_yes (sub s 0 64) (V : Int) 0 w (by rw [hl64]; omega))
  have HU2 := Lib.hid (fun w => RUnpack_no (sub s 0 64) (V : Int) 0 w (by rw [hl64]; omega))
  obtain ⟨h, hh⟩ : ∃ h, sub s 0 64 = h := ⟨_, rfl⟩
  rw [hh] at HU1 HU2 hep
  have hl2 : 64 ≤ s.length := by omega
  have HE := Lib.hid hep
  clear hep h1 h2 hl64
  go_enter Tryz.func86, Tryz.ntmps86
  go_wp2_with fail
  refine (HR1.out _).mono ?_
  rintro e w1 ⟨rfl, hq1⟩
  go_wp2_with fail
  refine (HR2.out _).mono ?_
  rintro e w2 ⟨rfl, hq2⟩
  go_wp2_with fail
  by_cases hu : UnpOk h (V : Int) 0
  case neg =>
    have hi : isHead h V = false := by unfold isHead; rw [decide_eq_false hu, Bool.false_and]
    have hE := HE.out
    rw [hi, if_neg (by decide)] at hE
    have HE2 := Lib.hid hE
    refine (HU2.out w2 hu).mono ?_
    rintro e w3 ⟨rfl, hq3⟩
    clear hi hE hu hh
    go_wp2_with fail
    go_ret
    exact ⟨by rw [HE2.out]; rfl, (hq1.trans hq2).trans hq3⟩
  refine (HU1.out w2 hu).mono ?_
  rintro e w3 ⟨rfl, hq3⟩
  obtain ⟨p, hp⟩ : ∃ p, payL h = p := ⟨_, rfl⟩
  rw [hp]
  by_cases hm : p = magicL
  · have g4 : (p == [106, 111, 117, 114, 110, 97, 108]) = true := by simpa [magicL] using hm
    have hi : isHead h V = true := by unfold isHead; rw [decide_eq_true hu, hp, decide_eq_true hm]; rfl
    have hE := HE.out
    rw [hi, if_pos rfl] at hE
    have HE2 := Lib.hid hE
    clear hi hE hu hh hp hm
    go_wp2_with fail
    go_ret
    exact ⟨by rw [HE2.out]; rfl, (hq1.trans hq2).trans hq3⟩
  · have g4 : (p == [106, 111, 117, 114, 110, 97, 108]) = false := by simpa [magicL] using hm
    have hi : isHead h V = false := by unfold isHead; rw [hp, decide_eq_false hm, Bool.and_false]
    have hE := HE.out
    rw [hi, if_neg (by decide)] at hE
    have HE2 := Lib.hid hE
    clear hi hE hu hh hp hm
    go_wp2_with fail
    go_ret
    exact ⟨by rw [HE2.out]; rfl, (hq1.trans hq2).trans hq3⟩
end Go.Proofs.YtcbepjepcabllaaGreatDoor
